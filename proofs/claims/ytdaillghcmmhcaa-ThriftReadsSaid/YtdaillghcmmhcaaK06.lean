/- THRIFT: its values, as' the machine holds them. -/
import Derived.Test.YtdaillghcmmhcaaK05
set_option linter.unusedSimpArgs false
set_option linter.unusedVariables false
open Go Go.Ag
namespace Go.Proofs.Th
inductive Th where
  | mk (kind key elem i : Int) (text : List UInt8) (ids : List Int) (list : List Th)
def irows (l : List Int) : List (List AV) := l.map fun i => [.v (.int .i64 i)]
def spare7 : List AV := [.v (.int .i64 77), .v (.int .i64 0), .v (.int .i64 0), .v (.int .i64 0), .v (.string ByteArray.empty), .sl [] [], .sl [] []]
def sp1 (sp : Bool) : List (List AV) := if sp then [[.v (.int .i64 77)]] else []
def sp7 (sp : Bool) : List (List AV) := if sp then [spare7] else []
mutual
/-- The cells of a value; 'sp': with something behind each list. -/
def Th.cells (sp : Bool) : Th → List AV
  | .mk k y e i t ids l => [.v (.int .i64 k), .v (.int .i64 y), .v (.int .i64 e), .v (.int .i64 i), .v (.string (bstr t)), .sl (irows ids) (sp1 sp), .sl (trows sp l) (sp7 sp)]
def trows (sp : Bool) : List Th → List (List AV)
  | [] => []
  | x :: xs => x.cells sp :: trows sp xs
end
theorem trows_map (sp : Bool) : ∀ l, trows sp l = l.map (Th.cells sp)
  | [] => by simp [trows]
  | x :: xs => by simp [trows, trows_map sp xs]
theorem trows_len (sp : Bool) (l : List Th) : (trows sp l).length = l.length := by simp [trows_map]
theorem irows_len (l : List Int) : (irows l).length = l.length := by simp [irows]
theorem trows_get {sp : Bool} {l : List Th} {i : Nat} {x : Th} (h : l[i]? = some x) : (trows sp l)[i]? = some (x.cells sp) := by simp [trows_map, h]
theorem irows_get {l : List Int} {i : Nat} {x : Int} (h : l[i]? = some x) : (irows l)[i]? = some [.v (.int .i64 x)] := by simp [irows, h]
theorem cells_len (sp : Bool) (x : Th) : (x.cells sp).length = 7 := by cases x; simp [Th.cells]
theorem cells_ok (sp : Bool) (x : Th) : okCells (x.cells sp) = true := by cases x; simp [Th.cells, okCells, okCell, Value.oneCell']
theorem irows_lt (l : List Int) (n : Nat) : AV.ltss n (irows l) = true := by
  induction l with
  | nil => rfl
  | cons b l ih => simpa [irows, AV.ltss, AV.lts, AV.lt] using ih
theorem sp1_lt (sp : Bool) (n : Nat) : AV.ltss n (sp1 sp) = true := by cases sp <;> simp [sp1, AV.ltss, AV.lts, AV.lt]
theorem sp7_lt (sp : Bool) (n : Nat) : AV.ltss n (sp7 sp) = true := by cases sp <;> simp [sp7, spare7, AV.ltss, AV.lts, AV.lt]
mutual
theorem cells_lt (sp : Bool) (n : Nat) : ∀ x : Th, AV.lts n (x.cells sp) = true
  | .mk k y e i t ids l => by simp [Th.cells, AV.lts, AV.lt, irows_lt, sp1_lt, sp7_lt, trows_lt sp n l]
theorem trows_lt (sp : Bool) (n : Nat) : ∀ l : List Th, AV.ltss n (trows sp l) = true
  | [] => by simp [trows, AV.ltss]
  | x :: xs => by simp [trows, AV.ltss, cells_lt sp n x, trows_lt sp n xs]
end
theorem irows_ok (l : List Int) : rowsOK 1 (irows l) = true := by simp [rowsOK, irows, okCells, okCell, Value.oneCell']
theorem trows_ok (sp : Bool) (l : List Th) : rowsOK 7 (trows sp l) = true := by
  simp only [rowsOK, trows_map, List.all_map, List.all_eq_true]
  intro x _
  simp [cells_len, cells_ok]
theorem sp1_ok (sp : Bool) : rowsOK 1 (sp1 sp) = true := by cases sp <;> simp [sp1, rowsOK, okCells, okCell, Value.oneCell']
theorem sp7_ok (sp : Bool) : rowsOK 7 (sp7 sp) = true := by cases sp <;> simp [sp7, spare7, rowsOK, okCells, okCell, Value.oneCell']
theorem irows_frz (M : Mem) (b n : Nat) (l : List Int) : (irows l).map (fun r => r.map (frz M b n)) = irows l := by
  have h : ∀ x : Int, frz M b n (.v (.int .i64 x)) = .v (.int .i64 x) := by intro x; cases n <;> rfl
  simp [irows, h, Function.comp_def]
theorem frz_int (M : Mem) (b n : Nat) (k : IntKind) (x : Int) : frz M b n (.v (.int k x)) = .v (.int k x) := by cases n <;> rfl
theorem frz_str (M : Mem) (b n : Nat) (x : ByteArray) : frz M b n (.v (.string x)) = .v (.string x) := by cases n <;> rfl
theorem sp1_frz (M : Mem) (b n : Nat) (sp : Bool) : (sp1 sp).map (fun r => r.map (frz M b n)) = sp1 sp := by cases sp <;> simp [sp1, frz_int]
theorem nil_frz (M : Mem) (b n : Nat) : frz M b n (.sl [] []) = .sl [] [] := by cases n <;> rfl
theorem sp7_frz (M : Mem) (b n : Nat) (sp : Bool) : (sp7 sp).map (fun r => r.map (frz M b n)) = sp7 sp := by cases sp <;> simp [sp7, spare7, frz_int, frz_str, nil_frz]
mutual
theorem cells_frz (M : Mem) (b : Nat) (sp : Bool) : ∀ (n : Nat) (x : Th), (x.cells sp).map (frz M b n) = x.cells sp
  | 0, x => by
    have : frz M b 0 = id := by funext a; rfl
    rw [this, List.map_id]
  | n + 1, .mk k y e i t ids l => by
    simp only [Th.cells, List.map_cons, List.map_nil, frz_int, frz_str]
    simp only [frz, irows_frz, sp1_frz, sp7_frz, trows_frz M b sp n l]
theorem trows_frz (M : Mem) (b : Nat) (sp : Bool) : ∀ (n : Nat) (l : List Th), (trows sp l).map (fun r => r.map (frz M b n)) = trows sp l
  | n, [] => by simp [trows]
  | n, x :: xs => by
    rw [trows, List.map_cons, cells_frz M b sp n x, trows_frz M b sp n xs]
end
theorem trows_ta (sp : Bool) (l : List Th) : (trows sp l).take l.length = trows sp l := List.take_of_length_le (by rw [trows_len]; exact Nat.le_refl _)
theorem trows_da (sp : Bool) (l : List Th) : (trows sp l).drop l.length = [] := List.drop_eq_nil_of_le (by rw [trows_len]; exact Nat.le_refl _)
theorem irows_ta (l : List Int) : (irows l).take l.length = irows l := List.take_of_length_le (by rw [irows_len]; exact Nat.le_refl _)
theorem irows_da (l : List Int) : (irows l).drop l.length = [] := List.drop_eq_nil_of_le (by rw [irows_len]; exact Nat.le_refl _)
theorem bRows_ta (l : List UInt8) : (bRows l).take l.length = bRows l := List.take_of_length_le (by rw [bRows_length]; exact Nat.le_refl _)
theorem bRows_da (l : List UInt8) : (bRows l).drop l.length = [] := List.drop_eq_nil_of_le (by rw [bRows_length]; exact Nat.le_refl _)
def i64 (x : Int) : Prop := -9223372036854775808 ≤ x ∧ x ≤ 9223372036854775807
def big : Nat := 140737488351232
mutual
/-- A value such as' a machine may hold. -/
def Th.ok : Th → Prop
  | .mk k y e i t ids l => i64 k ∧ i64 y ∧ i64 e ∧ i64 i ∧ t.length ≤ big ∧ ids.length * 8 ≤ big ∧ (∀ x ∈ ids, i64 x) ∧ l.length * 96 ≤ big ∧ oks l
def oks : List Th → Prop
  | [] => True
  | x :: xs => x.ok ∧ oks xs
end
theorem oks_mem : ∀ {l : List Th}, oks l → ∀ x ∈ l, x.ok
  | [], _, x, hx => by simp at hx
  | y :: ys, h, x, hx => by
    simp only [oks] at h
    simp only [List.mem_cons] at hx
    rcases hx with rfl | hx
    · exact h.1
    · exact oks_mem h.2 x hx
theorem oks_of {l : List Th} (h : ∀ x ∈ l, x.ok) : oks l := by
  induction l with
  | nil => trivial
  | cons x xs ih => exact ⟨h x (List.mem_cons_self ..), ih fun y hy => h y (List.mem_cons_of_mem _ hy)⟩
def Th.kind : Th → Int | .mk k _ _ _ _ _ _ => k
def Th.key : Th → Int | .mk _ k _ _ _ _ _ => k
def Th.elem : Th → Int | .mk _ _ k _ _ _ _ => k
def Th.i : Th → Int | .mk _ _ _ k _ _ _ => k
def Th.text : Th → List UInt8 | .mk _ _ _ _ k _ _ => k
def Th.ids : Th → List Int | .mk _ _ _ _ _ k _ => k
def Th.list : Th → List Th | .mk _ _ _ _ _ _ k => k
section
variable (sp : Bool) (x : Th)
theorem cells_0 : (x.cells sp)[0]? = some (.v (.int .i64 x.kind)) := by cases x; simp [Th.cells, Th.kind]
theorem cells_1 : (x.cells sp)[1]? = some (.v (.int .i64 x.key)) := by cases x; simp [Th.cells, Th.key]
theorem cells_2 : (x.cells sp)[2]? = some (.v (.int .i64 x.elem)) := by cases x; simp [Th.cells, Th.elem]
theorem cells_3 : (x.cells sp)[3]? = some (.v (.int .i64 x.i)) := by cases x; simp [Th.cells, Th.i]
theorem cells_4 : (x.cells sp)[4]? = some (.v (.string (bstr x.text))) := by cases x; simp [Th.cells, Th.text]
theorem cells_5 : (x.cells sp)[5]? = some (.sl (irows x.ids) (sp1 sp)) := by cases x; simp [Th.cells, Th.ids]
theorem cells_6 : (x.cells sp)[6]? = some (.sl (trows sp x.list) (sp7 sp)) := by cases x; simp [Th.cells, Th.list]
theorem cellg_0 (h : 0 < (x.cells sp).length) : (x.cells sp)[0]'h = (.v (.int .i64 x.kind)) := by have := cells_0 sp x; rw [List.getElem?_eq_getElem h] at this; exact Option.some.inj this
theorem cellg_1 (h : 1 < (x.cells sp).length) : (x.cells sp)[1]'h = (.v (.int .i64 x.key)) := by have := cells_1 sp x; rw [List.getElem?_eq_getElem h] at this; exact Option.some.inj this
theorem cellg_2 (h : 2 < (x.cells sp).length) : (x.cells sp)[2]'h = (.v (.int .i64 x.elem)) := by have := cells_2 sp x; rw [List.getElem?_eq_getElem h] at this; exact Option.some.inj this
theorem cellg_3 (h : 3 < (x.cells sp).length) : (x.cells sp)[3]'h = (.v (.int .i64 x.i)) := by have := cells_3 sp x; rw [List.getElem?_eq_getElem h] at this; exact Option.some.inj this
theorem cellg_4 (h : 4 < (x.cells sp).length) : (x.cells sp)[4]'h = (.v (.string (bstr x.text))) := by have := cells_4 sp x; rw [List.getElem?_eq_getElem h] at this; exact Option.some.inj this
theorem cellg_5 (h : 5 < (x.cells sp).length) : (x.cells sp)[5]'h = (.sl (irows x.ids) (sp1 sp)) := by have := cells_5 sp x; rw [List.getElem?_eq_getElem h] at this; exact Option.some.inj this
theorem cellg_6 (h : 6 < (x.cells sp).length) : (x.cells sp)[6]'h = (.sl (trows sp x.list) (sp7 sp)) := by have := cells_6 sp x; rw [List.getElem?_eq_getElem h] at this; exact Option.some.inj this
theorem cells_take : (x.cells sp).take 7 = x.cells sp := List.take_of_length_le (by rw [cells_len]; exact Nat.le_refl _)
theorem cells_keys : AV.keyss (x.cells sp) = [] := AV.keyss_of _ (cells_lt sp 0 x)
theorem cells_rens (π : Nat → Option Nat) : AV.rens π (x.cells sp) = some (x.cells sp) := AV.rens_of π _ (cells_lt sp 0 x)
theorem cells_is : x.cells sp = [.v (.int .i64 x.kind), .v (.int .i64 x.key), .v (.int .i64 x.elem), .v (.int .i64 x.i), .v (.string (bstr x.text)), .sl (irows x.ids) (sp1 sp), .sl (trows sp x.list) (sp7 sp)] := by cases x; simp [Th.cells, Th.kind, Th.key, Th.elem, Th.i, Th.text, Th.ids, Th.list]
end
theorem Th.ok_is {x : Th} (h : x.ok) : i64 x.kind ∧ i64 x.key ∧ i64 x.elem ∧ i64 x.i ∧ x.text.length ≤ 140737488351232 ∧ x.ids.length * 8 ≤ 140737488351232 ∧ (∀ y ∈ x.ids, i64 y) ∧ x.list.length * 96 ≤ 140737488351232 ∧ oks x.list := by
  cases x; simpa [Th.ok, big, Th.kind, Th.key, Th.elem, Th.i, Th.text, Th.ids, Th.list] using h
theorem list_lt (x : Th) {y : Th} (h : y ∈ x.list) : SizeOf.sizeOf y < SizeOf.sizeOf x := by
  cases x with | mk k y' e i t ids l =>
  have h : y ∈ l := h
  have := List.sizeOf_lt_of_mem h
  simp only [Th.mk.sizeOf_spec]
  omega
end Go.Proofs.Th
open Go Go.Ag
namespace Go.Proofs.Th
attribute [local simp] ec_skip ec_region ec_seq ec_cond ec_block ec_loop ec_exit ec_ret seqK_normal seqK_exit seqK_ret seqK_pan condK_true condK_false blockK_exit blockK_normal blockK_ret blockK_pan regionK_plain regionK_draw eo_nil eo_cons cutS_nil cutOf opK_is wantK_yes wantK_no stepK_ret stepK_pan endK_normal endK_ret endK_pan annotate headS wantedA evOp evOp1 evA Ag.get putT dstOK argsEnv retK resR resAll resOne constAV constCell Ctx.bss evLoad evStore AV.cells intOfAV AV.val AV.vals splice okCell okCells_nil okCells_cons finish AV.lt AV.lts AV.ltss putObj partOf restrT ltT ownOK bsOK bsOKs List.lookup_cons pr_bind pr_pure pr_guard_int pr_guard_str pr_guard_bool pr_add pr_sub pr_mul pr_eql pr_neq pr_lss pr_leq pr_gtr pr_geq pr_seql pr_sneq pr_not pr_neg pr_shl pr_shr pr_quo pr_rem pr_and pr_or pr_xor pr_conv pr_min2 pr_max2 undef callP plA plS plR plO nameP ARes.keys putObj callW callAt callKs inS outS backK reachW pickM renObjs AObj.ren AV.ren AV.rens renss renE posOf backM outK lokAt ARes.ren AV.keys AV.keyss objKeys evFieldAddr evIndexAddr evLen evFill List.range_succ Value.oneCell' evInsert mfind sameKey isKey AObj.lt Value.cells
attribute [local simp] cells_len cells_ok cells_lt trows_lt irows_lt sp1_lt sp7_lt irows_len trows_len cells_0 cells_1 cells_2 cells_3 cells_4 cells_5 cells_6 cellg_0 cellg_1 cellg_2 cellg_3 cellg_4 cellg_5 cellg_6 cells_take cells_keys cells_rens pr_lenstr bstr_size
attribute [local simp] look_mp look_mp2 look_imp look_imp2 lookV lookB intKeys cond_vint cond_vbool bits_i64 bits_u64 bits_u8 bits_i8 bits_i32 bits_u32
attribute [local simp] wrap64_in wrapu64_in wrapu8_in
attribute [local simp] fz_int fz_str fz_bool fz_float fz_nilp fz_tuple fz_nili fz_nilf fz_nilm fz_any fz_nil fz_emp fz_ptr fz_rp fz_ip fz_imp fz_agg fz_tup fz_ifc fz_fn fz_sl fzRow_row fz_so fzMap_mp fz_mp appR_row appN appX_nil appX_emp appX_so appS_some appT_some app_is bsD_some bsB_some bsA_some bs1_is bsZ0_some bsA0_some bs0_is src_sl srcR_row src_so src_str src_nil src_emp rowsOK_nil rowsOK_cons rowsOK_app
attribute [local simp] irows_frz trows_frz sp1_frz sp7_frz cells_frz irows_ok trows_ok sp1_ok sp7_ok bRows_map_frz bRows_ok bRows_lt bRows_length strRows_bstr
attribute [local simp] trows_ta trows_da irows_ta irows_da bRows_ta bRows_da
section
set_option maxHeartbeats 4000000
def C : Int := 281474976702465
end
section
set_option maxHeartbeats 4000000
theorem f64 (k : Int) : ev 64 [.v (.int .i64 k)] [] = some (.ret (.v (.bool (known k))), []) := by
  refine ev_fn Try.func64 rfl rfl (Nat.le_of_ble_eq_true rfl) ?_
  simp [ann, reg, Try.f64, f70]
  repeat' (first | ((first | rw [wantK_nm] | rw [wantK_m] | rw [condK_nm] | rw [condK_m] | rw [fWantK_nm] | rw [fWantK_m]); split) | simp [ann, reg, f70, known, holds, *])
def pbits (k : Int) : Int := bif k == 1 then 1 else bif k == 3 then 8 else bif k == 4 then 16 else bif k == 5 then 32 else bif k == 6 then 64 else bif k == 7 then 64 else 0
theorem f51 (k : Int) : ev 51 [.v (.int .i64 k)] [] = some (.ret (.v (.int .i64 (pbits k))), []) := by
  refine ev_fn Try.func51 rfl rfl (Nat.le_of_ble_eq_true rfl) ?_
  simp [ann, reg, Try.f51, pbits]
def pfits (k n : Int) : Bool := if pbits k = 0 then n == 0 else if pbits k = 1 then n.fdiv 2 == 0 else n.fdiv (2 ^ (pbits k - 1).toNat) == 0 || n.fdiv (2 ^ (pbits k - 1).toNat) == -1
end
section
set_option maxHeartbeats 4000000
theorem drop_get {α : Type} {l : List α} {j : Nat} {z : α} {zs : List α} (hd : l.drop j = z :: zs) : l[j]? = some z ∧ j < l.length ∧ l.drop (j + 1) = zs := by
  have hz : l[j]? = some z := by
    have := congrArg (fun l => l[0]?) hd
    simpa [List.getElem?_drop] using this
  exact ⟨hz, (List.getElem?_eq_some_iff.1 hz).1, by rw [← List.drop_drop, hd]; rfl⟩
def allK (k : Int) (l : List Th) : Bool := l.all fun x => x.kind == k
end
section
set_option maxHeartbeats 4000000
def evens : List Th → List Th
  | [] => []
  | [x] => [x]
  | x :: _ :: r => x :: evens r
theorem trows_append (sp : Bool) (a b : List Th) : trows sp (a ++ b) = trows sp a ++ trows sp b := by simp [trows_map]
theorem trows_one (sp : Bool) (x : Th) : trows sp [x] = [x.cells sp] := by simp [trows]
end
section
set_option maxHeartbeats 4000000
def sh9 (x : Th) : Bool := x.key == 0 && (x.ids.length == 0 && (known x.elem && (decide (x.list.length ≤ 65536) && allK x.elem x.list)))
def idsOK : List Int → Int → Bool
  | [], _ => true
  | i :: is, last => !(decide (i ≤ last) || decide (32767 < i)) && idsOK is i
def sh12 (x : Th) : Bool := idsOK x.ids 0 && (x.key == 0 && (x.elem == 0 && x.ids.length == x.list.length))
end
end Go.Proofs.Th
open Go Go.Ag
namespace Go.Proofs.Th
attribute [local simp] ec_skip ec_region ec_seq ec_cond ec_block ec_loop ec_exit ec_ret seqK_normal seqK_exit seqK_ret seqK_pan condK_true condK_false blockK_exit blockK_normal blockK_ret blockK_pan regionK_plain regionK_draw eo_nil eo_cons cutS_nil cutOf opK_is wantK_yes wantK_no stepK_ret stepK_pan endK_normal endK_ret endK_pan annotate headS wantedA evOp evOp1 evA Ag.get putT dstOK argsEnv retK resR resAll resOne constAV constCell Ctx.bss evLoad evStore AV.cells intOfAV AV.val AV.vals splice okCell okCells_nil okCells_cons finish AV.lt AV.lts AV.ltss putObj partOf restrT ltT ownOK bsOK bsOKs List.lookup_cons pr_bind pr_pure pr_guard_int pr_guard_str pr_guard_bool pr_add pr_sub pr_mul pr_eql pr_neq pr_lss pr_leq pr_gtr pr_geq pr_seql pr_sneq pr_not pr_neg pr_shl pr_shr pr_quo pr_rem pr_and pr_or pr_xor pr_conv pr_min2 pr_max2 undef callP plA plS plR plO nameP ARes.keys putObj callW callAt callKs inS outS backK reachW pickM renObjs AObj.ren AV.ren AV.rens renss renE posOf backM outK lokAt ARes.ren AV.keys AV.keyss objKeys evFieldAddr evIndexAddr evLen evFill List.range_succ Value.oneCell' evInsert mfind sameKey isKey AObj.lt Value.cells
attribute [local simp] cells_len cells_ok cells_lt trows_lt irows_lt sp1_lt sp7_lt irows_len trows_len cells_0 cells_1 cells_2 cells_3 cells_4 cells_5 cells_6 cellg_0 cellg_1 cellg_2 cellg_3 cellg_4 cellg_5 cellg_6 cells_take cells_keys cells_rens pr_lenstr bstr_size
attribute [local simp] look_mp look_mp2 look_imp look_imp2 lookV lookB intKeys cond_vint cond_vbool bits_i64 bits_u64 bits_u8 bits_i8 bits_i32 bits_u32
attribute [local simp] wrap64_in wrapu64_in wrapu8_in
attribute [local simp] fz_int fz_str fz_bool fz_float fz_nilp fz_tuple fz_nili fz_nilf fz_nilm fz_any fz_nil fz_emp fz_ptr fz_rp fz_ip fz_imp fz_agg fz_tup fz_ifc fz_fn fz_sl fzRow_row fz_so fzMap_mp fz_mp appR_row appN appX_nil appX_emp appX_so appS_some appT_some app_is bsD_some bsB_some bsA_some bs1_is bsZ0_some bsA0_some bs0_is src_sl srcR_row src_so src_str src_nil src_emp rowsOK_nil rowsOK_cons rowsOK_app
attribute [local simp] irows_frz trows_frz sp1_frz sp7_frz cells_frz irows_ok trows_ok sp1_ok sp7_ok bRows_map_frz bRows_ok bRows_lt bRows_length strRows_bstr
attribute [local simp] trows_ta trows_da irows_ta irows_da bRows_ta bRows_da
attribute [local simp] mask_F maskF merge_F mergeF d_fast evFast_is f_nil f_cons fWantK_no fWantK_yes fFp_w fFp_r fClW_t fClR_t fOpW_r fOpR_r fValW_t fValR_t fastX_some clashFree isPureFP fpOf FP.has FP.meets restr Oper.looksAt isAlloc Op.operands Call.operands List.filter_cons rank Nat.testBit reach
section
set_option maxHeartbeats 4000000
def sh11 (x : Th) : Bool :=
  bif (x.list.length : Int) == 0 then x.key == 0 && (x.elem == 0 && x.ids.length == 0)
  else x.ids.length == 0 && (known x.key && (known x.elem && (x.list.length % 2 == 0 && (decide (x.list.length / 2 ≤ 65536) && (allK x.key (evens x.list) && allK x.elem (evens x.list.tail))))))
end
section
set_option maxHeartbeats 4000000
def base (x : Th) : Bool := known x.kind && (pfits x.kind x.i && (!(x.kind != 8 && x.text != []) && !decide (1048576 < x.text.length)))
def shape (x : Th) : Bool := bif x.kind == 9 then sh9 x else bif x.kind == 11 then sh11 x else sh12 x
def leaf (x : Th) : Bool := x.key == 0 && (x.elem == 0 && (x.ids.length == 0 && x.list.length == 0))
mutual
def mayM : Th → Int → Bool
  | .mk k y e i t ids l, deep => base (.mk k y e i t ids l) && (bif holds k then decide (0 < deep) && (shape (.mk k y e i t ids l) && mays l (deep - 1)) else leaf (.mk k y e i t ids l))
def mays : List Th → Int → Bool
  | [], _ => true
  | x :: xs, d => mayM x d && mays xs d
end
theorem mays_all (d : Int) : ∀ l : List Th, mays l d = l.all fun z => mayM z d
  | [] => by simp [mays]
  | x :: xs => by simp [mays, mays_all d xs]
theorem mayM_is (x : Th) (deep : Int) : mayM x deep = (base x && (bif holds x.kind then decide (0 < deep) && (shape x && x.list.all fun z => mayM z (deep - 1)) else leaf x)) := by
  cases x
  simp only [mayM, mays_all, Th.kind, Th.list]
end
section
set_option maxHeartbeats 4000000
theorem f42 (k : Int) : ev 42 [.v (.int .i64 k)] [] = some (.ret (.v (.bool (k == 1 || (decide (3 ≤ k) && decide (k ≤ 9)) || k == 11 || k == 12))), []) := by
  refine ev_fn Try.func42 rfl rfl (Nat.le_of_ble_eq_true rfl) ?_
  simp [ann, reg, Try.f42]
  repeat' (first | ((first | rw [wantK_nm] | rw [wantK_m] | rw [condK_nm] | rw [condK_m] | rw [fWantK_nm] | rw [fWantK_m]); split) | simp [ann, reg, Bool.or_assoc, *])
theorem known_is (k : Int) : known k = (k == 1 || (decide (3 ≤ k) && decide (k ≤ 9)) || k == 11 || k == 12) := by
  rw [Bool.eq_iff_iff]
  simp [known]
  omega
theorem f42' (k : Int) : ev 42 [.v (.int .i64 k)] [] = some (.ret (.v (.bool (known k))), []) := by rw [known_is]; exact f42 k
theorem f47 (k : Int) : ev 47 [.v (.int .i64 k)] [] = some (.ret (.v (.bool (decide (9 ≤ k)))), []) := by
  refine ev_fn Try.func47 rfl rfl (Nat.le_of_ble_eq_true rfl) ?_
  simp [ann, reg, Try.f47]
def rbits (k : Int) : Int := bif k == 3 then 8 else bif k == 4 then 16 else bif k == 5 then 32 else 64
theorem f46 (k : Int) : ev 46 [.v (.int .i64 k)] [] = some (.ret (.v (.int .i64 (rbits k))), []) := by
  refine ev_fn Try.func46 rfl rfl (Nat.le_of_ble_eq_true rfl) ?_
  simp [ann, reg, Try.f46, rbits]
  repeat' (first | ((first | rw [wantK_nm] | rw [wantK_m] | rw [condK_nm] | rw [condK_m] | rw [fWantK_nm] | rw [fWantK_m]); split) | simp [ann, reg, *])
theorem known_cases {k : Int} (h : known k = true) : k = 1 ∨ k = 3 ∨ k = 4 ∨ k = 5 ∨ k = 6 ∨ k = 7 ∨ k = 8 ∨ k = 9 ∨ k = 11 ∨ k = 12 := by
  simpa [known] using h
end
end Go.Proofs.Th
open Go Go.Ag
namespace Go.Proofs.Th
attribute [local simp] ec_skip ec_region ec_seq ec_cond ec_block ec_loop ec_exit ec_ret seqK_normal seqK_exit seqK_ret seqK_pan condK_true condK_false blockK_exit blockK_normal blockK_ret blockK_pan regionK_plain regionK_draw eo_nil eo_cons cutS_nil cutOf opK_is wantK_yes wantK_no stepK_ret stepK_pan endK_normal endK_ret endK_pan annotate headS wantedA evOp evOp1 evA Ag.get putT dstOK argsEnv retK resR resAll resOne constAV constCell Ctx.bss evLoad evStore AV.cells intOfAV AV.val AV.vals splice okCell okCells_nil okCells_cons finish AV.lt AV.lts AV.ltss putObj partOf restrT ltT ownOK bsOK bsOKs List.lookup_cons pr_bind pr_pure pr_guard_int pr_guard_str pr_guard_bool pr_add pr_sub pr_mul pr_eql pr_neq pr_lss pr_leq pr_gtr pr_geq pr_seql pr_sneq pr_not pr_neg pr_shl pr_shr pr_quo pr_rem pr_and pr_or pr_xor pr_conv pr_min2 pr_max2 undef callP plA plS plR plO nameP ARes.keys putObj callW callAt callKs inS outS backK reachW pickM renObjs AObj.ren AV.ren AV.rens renss renE posOf backM outK lokAt ARes.ren AV.keys AV.keyss objKeys evFieldAddr evIndexAddr evLen evFill List.range_succ Value.oneCell' evInsert mfind sameKey isKey AObj.lt Value.cells
attribute [local simp] cells_len cells_ok cells_lt trows_lt irows_lt sp1_lt sp7_lt irows_len trows_len cells_0 cells_1 cells_2 cells_3 cells_4 cells_5 cells_6 cellg_0 cellg_1 cellg_2 cellg_3 cellg_4 cellg_5 cellg_6 cells_take cells_keys cells_rens pr_lenstr bstr_size
attribute [local simp] look_mp look_mp2 look_imp look_imp2 lookV lookB intKeys cond_vint cond_vbool bits_i64 bits_u64 bits_u8 bits_i8 bits_i32 bits_u32
attribute [local simp] wrap64_in wrapu64_in wrapu8_in
attribute [local simp] fz_int fz_str fz_bool fz_float fz_nilp fz_tuple fz_nili fz_nilf fz_nilm fz_any fz_nil fz_emp fz_ptr fz_rp fz_ip fz_imp fz_agg fz_tup fz_ifc fz_fn fz_sl fzRow_row fz_so fzMap_mp fz_mp appR_row appN appX_nil appX_emp appX_so appS_some appT_some app_is bsD_some bsB_some bsA_some bs1_is bsZ0_some bsA0_some bs0_is src_sl srcR_row src_so src_str src_nil src_emp rowsOK_nil rowsOK_cons rowsOK_app
attribute [local simp] irows_frz trows_frz sp1_frz sp7_frz cells_frz irows_ok trows_ok sp1_ok sp7_ok bRows_map_frz bRows_ok bRows_lt bRows_length strRows_bstr
attribute [local simp] trows_ta trows_da irows_ta irows_da bRows_ta bRows_da
section
set_option maxHeartbeats 4000000
def rwant (x : Th) (j : Nat) : Int := if x.kind = 11 ∧ j % 2 = 0 then x.key else x.elem
def rkl (x : Th) : List Th → Nat → Bool
  | [], _ => true
  | z :: zs, j => (x.kind == 12 || z.kind == rwant x j) && rkl x zs (j + 1)
def kinds (x : Th) : Bool :=
  bif x.kind == 9 then known x.elem && decide (x.list.length ≤ 65536) && rkl x x.list 0
  else bif x.kind == 11 then (bif x.list.length == 0 then x.key == 0 && x.elem == 0 else known x.elem && known x.key && !(x.list.length % 2 == 1) && decide (x.list.length / 2 ≤ 65536) && rkl x x.list 0)
  else true
end
end Go.Proofs.Th
/- THRIFT: what may be: program and reference say the same. No program in sight. -/
open Go Go.Ag
namespace Go.Proofs.Th
theorem fdiv_in (n : Int) (m : Int) (hm : 0 < m) : (n.fdiv m == 0 || n.fdiv m == -1) = (decide (-m ≤ n) && decide (n < m)) := by
  have e : n.fdiv m = n / m := Int.fdiv_eq_ediv_of_nonneg _ (by omega)
  rw [e, Bool.eq_iff_iff]
  simp
  have h1 := Int.mul_ediv_add_emod n m
  have h2 := Int.emod_nonneg n (by omega : m ≠ 0)
  have h3 := Int.emod_lt_of_pos n hm
  constructor
  · rintro (h | h) <;> rw [h] at h1 <;> omega
  · rintro ⟨ha, hb⟩
    by_cases hn : 0 ≤ n
    · left; exact Int.ediv_eq_zero_of_lt hn hb
    · right
      have g1 : n / m < 0 := Int.ediv_neg_of_neg_of_pos (by omega) hm
      have g2 : -1 ≤ n / m := by
        rw [Int.le_ediv_iff_mul_le hm]; omega
      omega
end Go.Proofs.Th
/- THRIFT: bytes of numbers: plain. -/
open Go Go.Ag
namespace Go.Proofs.Th
def byteOf (n : Int) : UInt8 := UInt8.ofNat (n % 256).toNat
def numb (n : Nat) : List UInt8 := if n < 128 then [byteOf n] else byteOf (128 + n % 128) :: numb (n / 128)
termination_by n
decreasing_by omega
def zig (n : Int) : Nat := if n < 0 then (2 * (-(n + 1)) + 1).toNat else (2 * n).toNat
end Go.Proofs.Th
open Go Go.Ag
namespace Go.Proofs.Th
attribute [local simp] ec_skip ec_region ec_seq ec_cond ec_block ec_loop ec_exit ec_ret seqK_normal seqK_exit seqK_ret seqK_pan condK_true condK_false blockK_exit blockK_normal blockK_ret blockK_pan regionK_plain regionK_draw eo_nil eo_cons cutS_nil cutOf opK_is wantK_yes wantK_no stepK_ret stepK_pan endK_normal endK_ret endK_pan annotate headS wantedA evOp evOp1 evA Ag.get putT dstOK argsEnv retK resR resAll resOne constAV constCell Ctx.bss evLoad evStore AV.cells intOfAV AV.val AV.vals splice okCell okCells_nil okCells_cons finish AV.lt AV.lts AV.ltss putObj partOf restrT ltT ownOK bsOK bsOKs List.lookup_cons pr_bind pr_pure pr_guard_int pr_guard_str pr_guard_bool pr_add pr_sub pr_mul pr_eql pr_neq pr_lss pr_leq pr_gtr pr_geq pr_seql pr_sneq pr_not pr_neg pr_shl pr_shr pr_quo pr_rem pr_and pr_or pr_xor pr_conv pr_min2 pr_max2 undef callP plA plS plR plO nameP ARes.keys putObj callW callAt callKs inS outS backK reachW pickM renObjs AObj.ren AV.ren AV.rens renss renE posOf backM outK lokAt ARes.ren AV.keys AV.keyss objKeys evFieldAddr evIndexAddr evLen evFill List.range_succ Value.oneCell' evInsert mfind sameKey isKey AObj.lt Value.cells
attribute [local simp] cells_len cells_ok cells_lt trows_lt irows_lt sp1_lt sp7_lt irows_len trows_len cells_0 cells_1 cells_2 cells_3 cells_4 cells_5 cells_6 cellg_0 cellg_1 cellg_2 cellg_3 cellg_4 cellg_5 cellg_6 cells_take cells_keys cells_rens pr_lenstr bstr_size
attribute [local simp] look_mp look_mp2 look_imp look_imp2 lookV lookB intKeys cond_vint cond_vbool bits_i64 bits_u64 bits_u8 bits_i8 bits_i32 bits_u32
attribute [local simp] wrap64_in wrapu64_in wrapu8_in
attribute [local simp] fz_int fz_str fz_bool fz_float fz_nilp fz_tuple fz_nili fz_nilf fz_nilm fz_any fz_nil fz_emp fz_ptr fz_rp fz_ip fz_imp fz_agg fz_tup fz_ifc fz_fn fz_sl fzRow_row fz_so fzMap_mp fz_mp appR_row appN appX_nil appX_emp appX_so appS_some appT_some app_is bsD_some bsB_some bsA_some bs1_is bsZ0_some bsA0_some bs0_is src_sl srcR_row src_so src_str src_nil src_emp rowsOK_nil rowsOK_cons rowsOK_app
attribute [local simp] irows_frz trows_frz sp1_frz sp7_frz cells_frz irows_ok trows_ok sp1_ok sp7_ok bRows_map_frz bRows_ok bRows_lt bRows_length strRows_bstr
attribute [local simp] trows_ta trows_da irows_ta irows_da bRows_ta bRows_da
section
set_option maxHeartbeats 4000000
attribute [local simp] pr_conv
def W (ver : Nat) (bs : List UInt8) : Mem := [.cells [.so 1 ver 0 bs.length], .row ver 1 (bRows bs)]
theorem bRows_app (a b : List UInt8) : bRows (a ++ b) = bRows a ++ bRows b := by simp [bRows]
theorem bRows_one (b : UInt8) : bRows [b] = [[.v (.int .u8 b.toNat)]] := by simp [bRows]
@[simp] theorem bRows_keys (l : List UInt8) : (bRows l).flatMap AV.keyss = [] := by
  induction l with
  | nil => rfl
  | cons b l ih => simp only [bRows, List.map_cons, List.flatMap_cons]; rw [show (l.map fun b : UInt8 => [AV.v (.int .u8 b.toNat)]) = bRows l from rfl, ih]; rfl
@[simp] theorem bRows_renss (π : Nat → Option Nat) (l : List UInt8) : renss π (bRows l) = some (bRows l) := by
  induction l with
  | nil => rfl
  | cons b l ih =>
    show renss π ([AV.v (.int .u8 b.toNat)] :: bRows l) = _
    unfold renss
    rw [ih]
    rfl
end
section
set_option maxHeartbeats 4000000
attribute [local simp] pr_conv
theorem numb_lt {n : Nat} (h : n < 128) : numb n = [byteOf n] := by rw [numb]; simp [h]
theorem numb_ge {n : Nat} (h : ¬ n < 128) : numb n = byteOf (128 + n % 128) :: numb (n / 128) := by rw [numb]; simp [h]
end
section
set_option maxHeartbeats 4000000
attribute [local simp] pr_conv
def eight (i : Int) : List UInt8 := (List.range 8).map fun j => byteOf (i.fdiv (2 ^ (8 * j)))
def pre (x : Th) : List UInt8 :=
  bif x.kind == 1 then [byteOf (2 - x.i)] else bif x.kind == 3 then [byteOf x.i] else bif x.kind == 4 || (x.kind == 5 || x.kind == 6) then numb (zig x.i) else bif x.kind == 7 then eight x.i
  else bif x.kind == 8 then numb x.text.length ++ x.text
  else bif x.kind == 11 then numb (x.list.length / 2) ++ (bif x.list.length == 0 then [] else [byteOf (x.key * 16 + x.elem)])
  else byteOf ((min x.list.length 15 : Nat) * 16 + x.elem) :: (bif decide (15 ≤ x.list.length) then numb x.list.length else [])
def tkind (x : Th) : Int := bif x.kind == 1 then 2 - x.i else x.kind
def fhead (x : Th) (id last : Int) : List UInt8 := bif decide (id - last ≤ 15) then [byteOf ((id - last) * 16 + tkind x)] else byteOf (tkind x) :: numb (zig id)
mutual
def wr : Th → List UInt8
  | .mk k y e i t ids l => bif k == 12 then wfs l ids 0 ++ [byteOf 0] else pre (.mk k y e i t ids l) ++ wrs l
def wrs : List Th → List UInt8
  | [] => []
  | x :: xs => wr x ++ wrs xs
def wfs : List Th → List Int → Int → List UInt8
  | [], _, _ => []
  | _ :: _, [], _ => []
  | x :: xs, id :: ids, last => fhead x id last ++ ((bif x.kind == 1 then [] else wr x) ++ wfs xs ids id)
end
theorem wr_is (x : Th) : wr x = bif x.kind == 12 then wfs x.list x.ids 0 ++ [byteOf 0] else pre x ++ wrs x.list := by
  cases x
  simp only [wr, Th.kind, Th.list, Th.ids]
end
end Go.Proofs.Th
open Go Go.Ag
namespace Go.Proofs.Th
attribute [local simp] ec_skip ec_region ec_seq ec_cond ec_block ec_loop ec_exit ec_ret seqK_normal seqK_exit seqK_ret seqK_pan condK_true condK_false blockK_exit blockK_normal blockK_ret blockK_pan regionK_plain regionK_draw eo_nil eo_cons cutS_nil cutOf opK_is wantK_yes wantK_no stepK_ret stepK_pan endK_normal endK_ret endK_pan annotate headS wantedA evOp evOp1 evA Ag.get putT dstOK argsEnv retK resR resAll resOne constAV constCell Ctx.bss evLoad evStore AV.cells intOfAV AV.val AV.vals splice okCell okCells_nil okCells_cons finish AV.lt AV.lts AV.ltss putObj partOf restrT ltT ownOK bsOK bsOKs List.lookup_cons pr_bind pr_pure pr_guard_int pr_guard_str pr_guard_bool pr_add pr_sub pr_mul pr_eql pr_neq pr_lss pr_leq pr_gtr pr_geq pr_seql pr_sneq pr_not pr_neg pr_shl pr_shr pr_quo pr_rem pr_and pr_or pr_xor pr_conv pr_min2 pr_max2 undef callP plA plS plR plO nameP ARes.keys putObj callW callAt callKs inS outS backK reachW pickM renObjs AObj.ren AV.ren AV.rens renss renE posOf backM outK lokAt ARes.ren AV.keys AV.keyss objKeys evFieldAddr evIndexAddr evLen evFill List.range_succ Value.oneCell' evInsert mfind sameKey isKey AObj.lt Value.cells
attribute [local simp] cells_len cells_ok cells_lt trows_lt irows_lt sp1_lt sp7_lt irows_len trows_len cells_0 cells_1 cells_2 cells_3 cells_4 cells_5 cells_6 cellg_0 cellg_1 cellg_2 cellg_3 cellg_4 cellg_5 cellg_6 cells_take cells_keys cells_rens pr_lenstr bstr_size
attribute [local simp] look_mp look_mp2 look_imp look_imp2 lookV lookB intKeys cond_vint cond_vbool bits_i64 bits_u64 bits_u8 bits_i8 bits_i32 bits_u32
attribute [local simp] wrap64_in wrapu64_in wrapu8_in
attribute [local simp] fz_int fz_str fz_bool fz_float fz_nilp fz_tuple fz_nili fz_nilf fz_nilm fz_any fz_nil fz_emp fz_ptr fz_rp fz_ip fz_imp fz_agg fz_tup fz_ifc fz_fn fz_sl fzRow_row fz_so fzMap_mp fz_mp appR_row appN appX_nil appX_emp appX_so appS_some appT_some app_is bsD_some bsB_some bsA_some bs1_is bsZ0_some bsA0_some bs0_is src_sl srcR_row src_so src_str src_nil src_emp rowsOK_nil rowsOK_cons rowsOK_app
attribute [local simp] irows_frz trows_frz sp1_frz sp7_frz cells_frz irows_ok trows_ok sp1_ok sp7_ok bRows_map_frz bRows_ok bRows_lt bRows_length strRows_bstr
attribute [local simp] trows_ta trows_da irows_ta irows_da bRows_ta bRows_da
attribute [local simp] mask_F maskF merge_F mergeF d_fast evFast_is f_nil f_cons fWantK_no fWantK_yes fFp_w fFp_r fClW_t fClR_t fOpW_r fOpR_r fValW_t fValR_t fastX_some clashFree isPureFP fpOf FP.has FP.meets restr Oper.looksAt isAlloc Op.operands Call.operands List.filter_cons rank Nat.testBit reach
section
set_option maxHeartbeats 4000000
attribute [local simp] pr_conv bstr_toList
mutual
def sameM : Th → Th → Bool
  | .mk k y e i t ids l, .mk k' y' e' i' t' ids' l' => (k == k' && (y == y' && (e == e' && (i == i' && (t == t' && (ids.length == ids'.length && l.length == l'.length)))))) && (ids == ids' && samesM l l')
def samesM : List Th → List Th → Bool
  | [], _ => true
  | _ :: _, [] => true
  | x :: xs, y :: ys => sameM x y && samesM xs ys
end
def headsM (x y : Th) : Bool := x.kind == y.kind && (x.key == y.key && (x.elem == y.elem && (x.i == y.i && (x.text == y.text && (x.ids.length == y.ids.length && x.list.length == y.list.length)))))
theorem sameM_is (x y : Th) : sameM x y = (headsM x y && (x.ids == y.ids && samesM x.list y.list)) := by
  cases x; cases y
  simp only [sameM, headsM, Th.kind, Th.key, Th.elem, Th.i, Th.text, Th.ids, Th.list]
def sameI : List Int → List Int → Bool
  | [], _ => true
  | _ :: _, [] => true
  | x :: xs, y :: ys => x == y && sameI xs ys
theorem sameI_is : ∀ (a b : List Int), a.length = b.length → sameI a b = (a == b)
  | [], [], _ => rfl
  | [], _ :: _, h => by simp at h
  | _ :: _, [], h => by simp at h
  | x :: xs, y :: ys, h => by
    have := sameI_is xs ys (by simpa using h)
    simp only [sameI, this]
    rw [Bool.eq_iff_iff]; simp
set_option maxRecDepth 20000 in
set_option maxHeartbeats 8000000 in
theorem f19 (sp sp' : Bool) (N : Nat) : ∀ (x y : Th), SizeOf.sizeOf x < N → x.ok → y.ok → ev 19 [.agg (x.cells sp), .agg (y.cells sp')] [] = some (.ret (.v (.bool (sameM x y))), []) := by
  induction N with
  | zero => intro x y h; omega
  | succ N ih =>
    intro x y hN hok hok'
    obtain ⟨_, _, _, _, b1, b2, _, b3, b4⟩ := Th.ok_is hok
    obtain ⟨_, _, _, _, b1', b2', _, b3', b4'⟩ := Th.ok_is hok'
    have hb6 := bef_19_6
    have hb11 := bef_19_11
    simp [Try.f19, opsOf] at hb6 hb11
    rw [sameM_is]
    refine ev_fn Try.func19 rfl rfl (Nat.le_of_ble_eq_true rfl) ?_
    cases c1 : (x.kind == y.kind)
    case false =>
      have d1 : (x.kind != y.kind) = true := by simp [bne, c1]
      have hh : headsM x y = false := by simp [headsM, c1]
      simp [ann, reg, Try.f19, hh, d1]
    have d1 : (x.kind != y.kind) = false := by simp [bne, c1]
    cases c2 : (x.key == y.key)
    case false =>
      have d2 : (x.key != y.key) = true := by simp [bne, c2]
      have hh : headsM x y = false := by simp [headsM, c2]
      simp [ann, reg, Try.f19, hh, d2, d1]
    have d2 : (x.key != y.key) = false := by simp [bne, c2]
    cases c3 : (x.elem == y.elem)
    case false =>
      have d3 : (x.elem != y.elem) = true := by simp [bne, c3]
      have hh : headsM x y = false := by simp [headsM, c3]
      simp [ann, reg, Try.f19, hh, d3, d1, d2]
    have d3 : (x.elem != y.elem) = false := by simp [bne, c3]
    cases c4 : (x.i == y.i)
    case false =>
      have d4 : (x.i != y.i) = true := by simp [bne, c4]
      have hh : headsM x y = false := by simp [headsM, c4]
      simp [ann, reg, Try.f19, hh, d4, d1, d2, d3]
    have d4 : (x.i != y.i) = false := by simp [bne, c4]
    cases c5 : (x.text == y.text)
    case false =>
      have d5 : (x.text != y.text) = true := by simp [bne, c5]
      have hh : headsM x y = false := by simp [headsM, c5]
      simp [ann, reg, Try.f19, hh, d5, d1, d2, d3, d4]
    have d5 : (x.text != y.text) = false := by simp [bne, c5]
    cases c6 : ((x.ids.length : Int) == (y.ids.length : Int))
    case false =>
      have d6 : ((x.ids.length : Int) != (y.ids.length : Int)) = true := by simp [bne, c6]
      have hh : headsM x y = false := by have h' : (x.ids.length == y.ids.length) = false := (by simp at c6 ⊢; omega); simp only [headsM, h', Bool.false_and, Bool.and_false]
      simp [ann, reg, Try.f19, hh, d6, d1, d2, d3, d4, d5]
    have d6 : ((x.ids.length : Int) != (y.ids.length : Int)) = false := by simp [bne, c6]
    cases c7 : ((x.list.length : Int) == (y.list.length : Int))
    case false =>
      have d7 : ((x.list.length : Int) != (y.list.length : Int)) = true := by simp [bne, c7]
      have hh : headsM x y = false := by have h' : (x.list.length == y.list.length) = false := (by simp at c7 ⊢; omega); simp only [headsM, h', Bool.false_and, Bool.and_false]
      simp [ann, reg, Try.f19, hh, d7, d1, d2, d3, d4, d5, d6]
    have d7 : ((x.list.length : Int) != (y.list.length : Int)) = false := by simp [bne, c7]
    have hl1 : x.ids.length = y.ids.length := by have := c6; simp at this; omega
    have hl2 : x.list.length = y.list.length := by have := c7; simp at this; omega
    have hh : headsM x y = true := by
      simp only [headsM, c1, c2, c3, c4, c5, hl1, hl2, beq_self_eq_true, Bool.and_self]
    simp [ann, reg, Try.f19, hh, d1, d2, d3, d4, d5, d6, d7]
    generalize hres : runLoop _ _ _ _ = res
    unfold runLoop at hres
    generalize hf : evCode _ _ _ = f at hres
    have key : ∀ (xs ys : List Int) (j : Nat) (T : Env), x.ids.drop j = xs → y.ids.drop j = ys → T.lookup 5 = some (.v (.int .i64 (j : Int))) → T.lookup 2 = some (.ptr 0 0) → T.lookup 3 = some (.ptr 1 0) → T.lookup 4 = some (.v (.bool false)) →
        ∃ T' e, lpW f ⟨T, [.cells (x.cells sp), .cells (y.cells sp')]⟩ = some (e, ⟨T', [.cells (x.cells sp), .cells (y.cells sp')]⟩) ∧ ((e = .exit 0 ∧ sameI xs ys = true ∧ T'.lookup 2 = some (.ptr 0 0) ∧ T'.lookup 3 = some (.ptr 1 0) ∧ T'.lookup 4 = some (.v (.bool false))) ∨ (e = .ret ∧ sameI xs ys = false ∧ T'.lookup 4 = some (.v (.bool false)))) := by
      intro xs
      induction xs with
      | nil =>
        intro ys j T hd hd' t5 t2 t3 t4
        have hj : x.ids.length ≤ j := List.drop_eq_nil_iff.1 hd
        have hlt : ¬ (j : Int) < (x.ids.length : Int) := by omega
        exact ⟨_, _, lpW_once (by rw [← hf]; simp [ann, reg, t5, t2, t3, hlt]; (first | rfl | exact ⟨rfl, rfl⟩ | exact ⟨rfl, rfl, rfl⟩)) (by simp), .inl ⟨rfl, by simp [sameI], by simp [t2], by simp [t3], by simp [t4]⟩⟩
      | cons z zs ih1 =>
        intro ys j T hd hd' t5 t2 t3 t4
        obtain ⟨hz, hj, hdn⟩ := drop_get hd
        cases ys with
        | nil => have := List.drop_eq_nil_iff.1 hd'; omega
        | cons u us =>
          obtain ⟨hu, hju, hdn'⟩ := drop_get hd'
          have hlt : (j : Int) < (x.ids.length : Int) := by omega
          have e3 : IntKind.i64.wrap ((j : Int) + 1) = ((j + 1 : Nat) : Int) := by rw [wrap64_in (by omega) (by omega)]; rfl
          cases hb : (z == u) with
          | false =>
            have hb' : (z != u) = true := by simp [bne, hb]
            exact ⟨_, _, lpW_once (by rw [← hf]; simp [ann, reg, hb6, t5, t2, t3, hlt, irows_get hz, irows_get hu, hb']; (first | rfl | exact ⟨rfl, rfl⟩ | exact ⟨rfl, rfl, rfl⟩)) (by simp), .inr ⟨rfl, by simp [sameI, hb], by simp⟩⟩
          | true =>
            have hb' : (z != u) = false := by simp [bne, hb]
            obtain ⟨T1, q, q5, q2, q3, q4⟩ : ∃ T1, f ⟨T, [.cells (x.cells sp), .cells (y.cells sp')]⟩ = some (.normal, ⟨T1, [.cells (x.cells sp), .cells (y.cells sp')]⟩) ∧ T1.lookup 5 = some (.v (.int .i64 ((j + 1 : Nat) : Int))) ∧ T1.lookup 2 = some (.ptr 0 0) ∧ T1.lookup 3 = some (.ptr 1 0) ∧ T1.lookup 4 = some (.v (.bool false)) :=
              ⟨_, by rw [← hf]; simp [ann, reg, hb6, t5, t2, t3, hlt, irows_get hz, irows_get hu, hb', e3]; (first | rfl | exact ⟨rfl, rfl⟩ | exact ⟨rfl, rfl, rfl⟩), by simp, by simp [t2], by simp [t3], by simp [t4]⟩
            obtain ⟨T', e, r1, r2⟩ := ih1 us (j + 1) T1 hdn hdn' q5 q2 q3 q4
            refine ⟨T', e, lpW_first q r1, ?_⟩
            have : sameI (z :: zs) (u :: us) = sameI zs us := by simp [sameI, hb]
            rw [this]; exact r2
    obtain ⟨T', e, h1, h2⟩ : ∃ T' e, res = some (e, ⟨T', [.cells (x.cells sp), .cells (y.cells sp')]⟩) ∧ ((e = .exit 0 ∧ sameI x.ids y.ids = true ∧ T'.lookup 2 = some (.ptr 0 0) ∧ T'.lookup 3 = some (.ptr 1 0) ∧ T'.lookup 4 = some (.v (.bool false))) ∨ (e = .ret ∧ sameI x.ids y.ids = false ∧ T'.lookup 4 = some (.v (.bool false)))) := by
      rw [← hres]
      exact key x.ids y.ids 0 _ rfl rfl (by simp) (by simp) (by simp) (by simp)
    subst h1
    clear hf key hres
    rw [sameI_is _ _ hl1] at h2
    rcases h2 with ⟨rfl, g, t2, t3, t4⟩ | ⟨rfl, g, t4⟩
    case inr => simp at g; simp [ann, reg, t4, g]
    simp at g
    simp [ann, reg, g, t2, t3]
    generalize hres : runLoop _ _ _ _ = res
    unfold runLoop at hres
    generalize hf : evCode _ _ _ = f at hres
    have key : ∀ (xs ys : List Th) (j : Nat) (T : Env) (ex : Mem), x.list.drop j = xs → y.list.drop j = ys → T.lookup 6 = some (.v (.int .i64 (j : Int))) → T.lookup 2 = some (.ptr 0 0) → T.lookup 3 = some (.ptr 1 0) → (T.lookup 4 = some (.v (.bool false))) →
        ∃ T' e M', lpW f ⟨T, .cells (x.cells sp) :: .cells (y.cells sp') :: ex⟩ = some (e, ⟨T', M'⟩) ∧ ((e = .exit 2 ∧ samesM xs ys = true) ∨ (e = .ret ∧ samesM xs ys = false ∧ T'.lookup 4 = some (.v (.bool false)))) := by
      intro xs
      induction xs with
      | nil =>
        intro ys j T ex hd hd' t6 t2 t3 t4
        have hj : x.list.length ≤ j := List.drop_eq_nil_iff.1 hd
        have hlt : ¬ (j : Int) < (x.list.length : Int) := by omega
        exact ⟨_, _, _, lpW_once (by rw [← hf]; simp [ann, reg, t6, t2, t3, t4, hlt]; (first | rfl | exact ⟨rfl, rfl⟩ | exact ⟨rfl, rfl, rfl⟩)) (by simp), .inl ⟨rfl, by simp [samesM]⟩⟩
      | cons z zs ih1 =>
        intro ys j T ex hd hd' t6 t2 t3 t4
        obtain ⟨hz, hj, hdn⟩ := drop_get hd
        cases ys with
        | nil => have := List.drop_eq_nil_iff.1 hd'; omega
        | cons u us =>
          obtain ⟨hu, hju, hdn'⟩ := drop_get hd'
          have hlt : (j : Int) < (x.list.length : Int) := by omega
          have hm := List.mem_of_getElem? hz
          have hm' := List.mem_of_getElem? hu
          have hcall := ih z u (by have := list_lt x hm; omega) (oks_mem b4 z hm) (oks_mem b4' u hm')
          have e3 : IntKind.i64.wrap ((j : Int) + 1) = ((j + 1 : Nat) : Int) := by rw [wrap64_in (by omega) (by omega)]; rfl
          cases hb : sameM z u with
          | false =>
            exact ⟨_, _, _, lpW_once (by rw [← hf]; simp [ann, reg, hb11, t6, t2, t3, t4, hlt, trows_get hz, trows_get hu, hcall, hb]; (first | rfl | exact ⟨rfl, rfl⟩ | exact ⟨rfl, rfl, rfl⟩)) (by simp), .inr ⟨rfl, by simp [samesM, hb], by simp⟩⟩
          | true =>
            obtain ⟨T1, M1, q, q6, q2, q3, q4⟩ : ∃ T1 M1, f ⟨T, .cells (x.cells sp) :: .cells (y.cells sp') :: ex⟩ = some (.normal, ⟨T1, .cells (x.cells sp) :: .cells (y.cells sp') :: M1⟩) ∧ T1.lookup 6 = some (.v (.int .i64 ((j + 1 : Nat) : Int))) ∧ T1.lookup 2 = some (.ptr 0 0) ∧ T1.lookup 3 = some (.ptr 1 0) ∧ T1.lookup 4 = some (.v (.bool false)) :=
              ⟨_, _, by rw [← hf]; simp [ann, reg, hb11, t6, t2, t3, t4, hlt, trows_get hz, trows_get hu, hcall, hb, e3]; (first | rfl | exact ⟨rfl, rfl⟩ | exact ⟨rfl, rfl, rfl⟩), by simp, by simp [t2], by simp [t3], by simp [t4]⟩
            obtain ⟨T', e, M', r1, r2⟩ := ih1 us (j + 1) T1 M1 hdn hdn' q6 q2 q3 q4
            refine ⟨T', e, M', lpW_first q r1, ?_⟩
            have : samesM (z :: zs) (u :: us) = samesM zs us := by simp [samesM, hb]
            rw [this]; exact r2
    obtain ⟨T', e, M', h1, h2⟩ : ∃ T' e M', res = some (e, ⟨T', M'⟩) ∧ ((e = .exit 2 ∧ samesM x.list y.list = true) ∨ (e = .ret ∧ samesM x.list y.list = false ∧ T'.lookup 4 = some (.v (.bool false)))) := by
      rw [← hres]
      exact key x.list y.list 0 _ [] rfl rfl (by simp) (by simp [t2]) (by simp [t3]) (by simp [t4])
    subst h1
    clear hf key hres
    rcases h2 with ⟨rfl, g3⟩ | ⟨rfl, g3, t4⟩
    · simp [ann, reg, g3]
    · simp [ann, reg, t4, g3]
end
section
set_option maxHeartbeats 4000000
attribute [local simp] pr_conv bstr_toList
mutual
theorem sameM_refl : ∀ x : Th, sameM x x = true
  | .mk k y e i t ids l => by simp [sameM, samesM_refl l]
theorem samesM_refl : ∀ l : List Th, samesM l l = true
  | [] => rfl
  | x :: xs => by simp [samesM, sameM_refl x, samesM_refl xs]
end
theorem f14 (e : Int) : ev 14 [.v (.int .i64 e)] [] = some (.ret (.v (.int .i64 e)), []) := by
  refine ev_fn Try.func14 rfl rfl (Nat.le_of_ble_eq_true rfl) ?_
  simp [ann, reg, Try.f14]
end
section
set_option maxHeartbeats 4000000
attribute [local simp] pr_conv bstr_toList
set_option maxRecDepth 100000 in
theorem f10 : ev 10 [] [] = some (.ret (.v (.bool true)), []) := evW_run 40 (by kernel_rfl)
end
end Go.Proofs.Th
/- THRIFT: arguments as' values. -/
open Go Go.Ag
namespace Go.Proofs.Th
theorem shp5 : shapeOf Try.prog 5 = .int .u8 := by kernel_rfl
theorem shp30 : shapeOf Try.prog 30 = .sl 5 1 := by kernel_rfl
theorem by5 : Try.prog.bytesOf 5 = 1 := by kernel_rfl
theorem plain : plainS Try.prog [26, 22, 2, 3, 5, 9, 23, 24, 30, 49] = true := by kernel_rfl
theorem bytes_of (n : Nat) (r : List AV) (h : WT Try.prog n 30 r) : ∃ l : List UInt8, r = [.sl (bRows l) []] ∧ l.length ≤ 140737488351232 := by
  obtain ⟨m, rows, hm, rfl, hl, hr⟩ := h.sl shp30
  obtain ⟨l, rfl, hll, _⟩ := rows_lift (c := fun b : UInt8 => [.v (.int .u8 b.toNat)]) (Q := fun _ => True) fun r hr' => by
    obtain ⟨i, rfl, hi⟩ := (hr r hr').int shp5
    simp [Lit.wf, IntKind.min, IntKind.max, IntKind.signed, IntKind.bits] at hi
    refine ⟨UInt8.ofNat i.toNat, ?_, trivial⟩
    have : ((UInt8.ofNat i.toNat).toNat : Int) = i := by
      rw [UInt8.toNat_ofNat']
      have h1 : (0 : Int) ≤ i := hi.1
      have h2 : i ≤ 255 := hi.2
      omega
    rw [this]
  rw [by5] at hl
  unfold reachBytes at hl
  refine ⟨l, rfl, ?_⟩
  rw [hll]; omega
end Go.Proofs.Th
open Go Go.Ag
namespace Go.Proofs.Th
attribute [local simp] ec_skip ec_region ec_seq ec_cond ec_block ec_loop ec_exit ec_ret seqK_normal seqK_exit seqK_ret seqK_pan condK_true condK_false blockK_exit blockK_normal blockK_ret blockK_pan regionK_plain regionK_draw eo_nil eo_cons cutS_nil cutOf opK_is wantK_yes wantK_no stepK_ret stepK_pan endK_normal endK_ret endK_pan annotate headS wantedA evOp evOp1 evA Ag.get putT dstOK argsEnv retK resR resAll resOne constAV constCell Ctx.bss evLoad evStore AV.cells intOfAV AV.val AV.vals splice okCell okCells_nil okCells_cons finish AV.lt AV.lts AV.ltss putObj partOf restrT ltT ownOK bsOK bsOKs List.lookup_cons pr_bind pr_pure pr_guard_int pr_guard_str pr_guard_bool pr_add pr_sub pr_mul pr_eql pr_neq pr_lss pr_leq pr_gtr pr_geq pr_seql pr_sneq pr_not pr_neg pr_shl pr_shr pr_quo pr_rem pr_and pr_or pr_xor pr_conv pr_min2 pr_max2 undef callP plA plS plR plO nameP ARes.keys putObj callW callAt callKs inS outS backK reachW pickM renObjs AObj.ren AV.ren AV.rens renss renE posOf backM outK lokAt ARes.ren AV.keys AV.keyss objKeys evFieldAddr evIndexAddr evLen evFill List.range_succ Value.oneCell' evInsert mfind sameKey isKey AObj.lt Value.cells
attribute [local simp] cells_len cells_ok cells_lt trows_lt irows_lt sp1_lt sp7_lt irows_len trows_len cells_0 cells_1 cells_2 cells_3 cells_4 cells_5 cells_6 cellg_0 cellg_1 cellg_2 cellg_3 cellg_4 cellg_5 cellg_6 cells_take cells_keys cells_rens pr_lenstr bstr_size
attribute [local simp] look_mp look_mp2 look_imp look_imp2 lookV lookB intKeys cond_vint cond_vbool bits_i64 bits_u64 bits_u8 bits_i8 bits_i32 bits_u32
attribute [local simp] wrap64_in wrapu64_in wrapu8_in
attribute [local simp] fz_int fz_str fz_bool fz_float fz_nilp fz_tuple fz_nili fz_nilf fz_nilm fz_any fz_nil fz_emp fz_ptr fz_rp fz_ip fz_imp fz_agg fz_tup fz_ifc fz_fn fz_sl fzRow_row fz_so fzMap_mp fz_mp appR_row appN appX_nil appX_emp appX_so appS_some appT_some app_is bsD_some bsB_some bsA_some bs1_is bsZ0_some bsA0_some bs0_is src_sl srcR_row src_so src_str src_nil src_emp rowsOK_nil rowsOK_cons rowsOK_app
attribute [local simp] irows_frz trows_frz sp1_frz sp7_frz cells_frz irows_ok trows_ok sp1_ok sp7_ok bRows_map_frz bRows_ok bRows_lt bRows_length strRows_bstr
attribute [local simp] trows_ta trows_da irows_ta irows_da bRows_ta bRows_da
attribute [local simp] mask_F maskF merge_F mergeF d_fast evFast_is f_nil f_cons fWantK_no fWantK_yes fFp_w fFp_r fClW_t fClR_t fOpW_r fOpR_r fValW_t fValR_t fastX_some clashFree isPureFP fpOf FP.has FP.meets restr Oper.looksAt isAlloc Op.operands Call.operands List.filter_cons rank Nat.testBit reach
section
set_option maxHeartbeats 4000000
attribute [local simp] pr_conv bstr_toList
inductive Out (α : Type) where
  | ok (a : α) (rest : List UInt8)
  | bad (short : Bool)
def Out.bind {α β : Type} : Out α → (α → List UInt8 → Out β) → Out β
  | .ok a r, f => f a r
  | .bad s, _ => .bad s
def pv (s : Bool) : AV := .ifc (bif s then 60 else 61) (.agg [])
@[simp] theorem pv_ren (π : Nat → Option Nat) (s : Bool) : AV.ren π (pv s) = some (pv s) := by cases s <;> simp [pv, AV.ren, AV.rens]
@[simp] theorem pv_lt (n : Nat) (s : Bool) : AV.lt n (pv s) = true := by cases s <;> simp [pv, AV.lt, AV.lts]
@[simp] theorem pv_keys (s : Bool) : AV.keys (pv s) = [] := by cases s <;> simp [pv, AV.keys, AV.keyss]
@[simp] theorem pv_frz (M : Mem) (b n : Nat) (s : Bool) : frz M b n (pv s) = pv s := by cases s <;> cases n <;> simp [pv, frz] <;> (rename_i n; cases n <;> rfl)
def rd (sp : List UInt8) (bs : List UInt8) : AObj := .cells [.sl (bRows bs) (bRows sp)]
def RO {α : Type} (res : Option (ARes × Mem)) (good : α → List UInt8 → ARes × Mem) (bad : Mem → Prop) : Out α → Prop
  | .ok a rest => res = some (good a rest)
  | .bad s => ∃ M', bad M' ∧ res = some (.pan (pv s), M')
theorem ev_fnO {P : Program} {ann : FuncId → AnnF} {f : FuncId} {fn : Func} {code : Code} {args : List AV} {M : Mem} {α : Type} {good : α → List UInt8 → ARes × Mem} {bad : Mem → Prop} {O : Out α} (hf : P.funcs[f]? = some fn) (hb : fn.body = some code) (hd : hasDefer code = false) (h : args.length ≤ fn.ntmps)
    (hr : RO (endK P fn.results.toList (ann f).fin M.length (evCode ⟨P, callW P ann, fn.ntmps, M.length, [], 0, (ann f).reg⟩ lpW code ⟨argsEnv 0 args, M⟩)) good bad O) (ho : (ann f).off = false := by rfl) : RO (evW P ann f args M) good bad O := by
  cases O with
  | ok a rest => exact ev_fn hf hb hd h hr ho
  | bad s =>
    obtain ⟨M', h1, h2⟩ := hr
    exact ⟨M', h1, ev_fn hf hb hd h h2 ho⟩
theorem RO.ok {α : Type} {res : Option (ARes × Mem)} {good : α → List UInt8 → ARes × Mem} {bad : Mem → Prop} {O : Out α} (h : RO res good bad O) {a : α} {r : List UInt8} (e : O = .ok a r) : res = some (good a r) := by subst e; exact h
theorem RO.bad {α : Type} {res : Option (ARes × Mem)} {good : α → List UInt8 → ARes × Mem} {bad : Mem → Prop} {O : Out α} (h : RO res good bad O) {s : Bool} (e : O = .bad s) : ∃ M', bad M' ∧ res = some (.pan (pv s), M') := by subst e; exact h
def isRd (sp : List UInt8) (M : Mem) : Prop := ∃ bs, M = [rd sp bs]
def gRd {α : Type} (sp : List UInt8) (val : α → AV) : α → List UInt8 → ARes × Mem := fun a r => (.ret (val a), [rd sp r])
theorem bRows_cons (c : UInt8) (bs : List UInt8) : bRows (c :: bs) = [.v (.int .u8 c.toNat)] :: bRows bs := rfl
theorem bRows_nl : bRows [] = [] := rfl
theorem bRows_drop (bs : List UInt8) (n : Nat) : (bRows bs).drop n = bRows (bs.drop n) := by simp [bRows]
theorem bRows_take (bs : List UInt8) (n : Nat) : (bRows bs).take n = bRows (bs.take n) := by simp [bRows]
theorem f48_nil (sp : List UInt8) : ev 48 [.ptr 0 0] [rd sp []] = some (.pan (pv true), [rd sp []]) := by
  refine ev_fn Try.func48 rfl rfl (Nat.le_of_ble_eq_true rfl) ?_
  simp [ann, reg, Try.f48, rd, pv, bRows_nl]
theorem f48 (sp : List UInt8) (c : UInt8) (bs : List UInt8) : ev 48 [.ptr 0 0] [rd sp (c :: bs)] = some (.ret (.v (.int .u8 c.toNat)), [rd sp bs]) := by
  refine ev_fn Try.func48 rfl rfl (Nat.le_of_ble_eq_true rfl) ?_
  have h : ((bs.length : Int) + 1 == 0) = false := by simp; omega
  simp [ann, reg, Try.f48, rd, bRows_cons, h, evSlice, bndOf]
theorem f49_t : ev 49 [.v (.bool true)] [] = some (.ret (.tup []), []) := by
  refine ev_fn Try.func49 rfl rfl (Nat.le_of_ble_eq_true rfl) ?_
  simp [ann, reg, Try.f49]
theorem f49_f : ev 49 [.v (.bool false)] [] = some (.pan (pv false), []) := by
  refine ev_fn Try.func49 rfl rfl (Nat.le_of_ble_eq_true rfl) ?_
  simp [ann, reg, Try.f49, pv]
theorem bAnd_7 (c : UInt8) : bAnd .u8 (c.toNat : Int) 127 = ((c.toNat % 128 : Nat) : Int) := by
  have h : ∀ b : BitVec 8, (b &&& 127#8).toNat = b.toNat % 128 := by decide +kernel
  unfold bAnd
  have e : (BitVec.ofInt 8 (c.toNat : Int)).toNat = c.toNat := by have := c.toNat_lt; simp
  show IntKind.u8.wrap (((BitVec.ofInt 8 (c.toNat : Int) &&& BitVec.ofInt 8 127).toNat : Nat) : Int) = _
  have h2 : (BitVec.ofInt 8 (c.toNat : Int) &&& BitVec.ofInt 8 127).toNat = c.toNat % 128 := by
    have := h (BitVec.ofInt 8 (c.toNat : Int)); rw [e] at this; exact this
  rw [h2, IntKind.wrap_u8]
  have := c.toNat_lt
  omega
theorem bOr_up (n m s : Nat) (h : n < 2 ^ s) (h2 : n + m * 2 ^ s < 18446744073709551616) : bOr .u64 (n : Int) ((m : Int) * 2 ^ s) = ((n + m * 2 ^ s : Nat) : Int) := by
  unfold bOr
  have hp : ((m : Int) * 2 ^ s) = ((m * 2 ^ s : Nat) : Int) := by simp
  show IntKind.u64.wrap (((BitVec.ofInt 64 (n : Int) ||| BitVec.ofInt 64 ((m : Int) * 2 ^ s)).toNat : Nat) : Int) = _
  rw [hp, BitVec.toNat_or]
  have g1 : (BitVec.ofInt 64 (n : Int)).toNat = n := by
    rw [BitVec.toNat_ofInt]; omega
  have g2 : (BitVec.ofInt 64 ((m * 2 ^ s : Nat) : Int)).toNat = m * 2 ^ s := by
    rw [BitVec.toNat_ofInt]; omega
  rw [g1, g2]
  have := Nat.shiftLeft_add_eq_or_of_lt h m
  rw [Nat.shiftLeft_eq] at this
  rw [Nat.or_comm, ← this, Nat.add_comm, IntKind.wrap_u64]
  omega
theorem fdiv_nat (a b : Nat) : ((a : Int)).fdiv (b : Int) = ((a / b : Nat) : Int) := by
  rw [Int.fdiv_eq_ediv_of_nonneg _ (by omega)]; rfl
def numL (least most step : Nat) : List UInt8 → Nat → Nat → Out Nat
  | [], _, _ => .bad true
  | c :: bs, s, n =>
    if ¬ ((0 < s ∨ c.toNat % step = 0) ∧ (s < 63 ∨ c.toNat < 2)) then .bad false
    else if c.toNat < 128 then
      if (least ≤ n + c.toNat % 128 * 2 ^ s ∧ n + c.toNat % 128 * 2 ^ s ≤ most) ∧ (0 < c.toNat ∨ s = 0) then .ok (n + c.toNat % 128 * 2 ^ s) bs else .bad false
    else if ¬ (s + 7 < 64 ∧ n + c.toNat % 128 * 2 ^ s ≤ most) then .bad false
    else if ¬ (0 < (most - (n + c.toNat % 128 * 2 ^ s)) / 2 ^ (s + 7) ∧ least ≤ n + c.toNat % 128 * 2 ^ s + (most - (n + c.toNat % 128 * 2 ^ s)) / 2 ^ (s + 7) * 2 ^ (s + 7)) then .bad false
    else numL least most step bs (s + 7) (n + c.toNat % 128 * 2 ^ s)
end
section
set_option maxHeartbeats 4000000
attribute [local simp] pr_conv bstr_toList
theorem tmod_nat (a b : Nat) : Int.tmod (a : Int) (b : Int) = ((a % b : Nat) : Int) := rfl
theorem mod_beq (a b : Nat) : ((a : Int) % (b : Int) == 0) = (a % b == 0) := by
  rw [Bool.eq_iff_iff]; simp; omega
set_option maxRecDepth 20000 in
set_option maxHeartbeats 8000000 in
theorem f53 (sp : List UInt8) (least most step : Nat) (hl : least < 18446744073709551616) (hm : most < 18446744073709551616) (hs : step = 1 ∨ step = 2) (bs : List UInt8) :
    RO (ev 53 [.ptr 0 0, .v (.int .u64 least), .v (.int .u64 most), .v (.int .u64 step)] [rd sp bs]) (gRd sp fun n : Nat => .v (.int .u64 (n : Int))) (isRd sp) (numL least most step bs 0 0) := by
  refine ev_fnO Try.func53 rfl rfl (Nat.le_of_ble_eq_true rfl) ?_
  have hst0 : step ≠ 0 := by omega
  simp [ann, reg, Try.f53]
  generalize hres : runLoop _ _ _ _ = res
  unfold runLoop at hres
  generalize hf : evCode _ _ _ = f at hres
  have key : ∀ (bs : List UInt8) (s n : Nat) (T : Env), n < 2 ^ s → s ≤ 63 → s % 7 = 0 → T.lookup 0 = some (.ptr 0 0) → T.lookup 1 = some (.v (.int .u64 least)) → T.lookup 2 = some (.v (.int .u64 most)) → T.lookup 3 = some (.v (.int .u64 step)) → T.lookup 9 = some (.v (.int .u64 n)) → T.lookup 10 = some (.v (.int .i64 s)) →
      match numL least most step bs s n with
        | .ok m rest => ∃ T', lpW f ⟨T, [rd sp bs]⟩ = some (.ret, ⟨T', [rd sp rest]⟩) ∧ T'.lookup 8 = some (.v (.int .u64 (m : Int)))
        | .bad u => ∃ T' bs', lpW f ⟨T, [rd sp bs]⟩ = some (.pan (pv u), ⟨T', [rd sp bs']⟩) := by
    intro bs
    induction bs with
    | nil =>
      intro s n T hn hs h7 t0 t1 t2 t3 t9 t10
      have h48 := f48_nil sp
      simp [rd] at h48
      rw [numL]
      exact ⟨_, [], lpW_once (by rw [← hf]; simp [ann, reg, rd, t0, h48]; (first | rfl | exact ⟨rfl, rfl⟩ | exact ⟨rfl, rfl, rfl⟩)) (by simp)⟩
    | cons c bs ih =>
      intro s n T hn hs h7 t0 t1 t2 t3 t9 t10
      have h48 := f48 sp c bs
      simp [rd] at h48
      have hc : c.toNat < 256 := c.toNat_lt
      have w1 : IntKind.u64.wrap (c.toNat : Int) = (c.toNat : Int) := by rw [IntKind.wrap_u64]; omega
      have w2 : Int.tmod (c.toNat : Int) (step : Int) = ((c.toNat % step : Nat) : Int) := rfl
      rw [numL]
      by_cases a1 : (0 < s ∨ c.toNat % step = 0) ∧ (s < 63 ∨ c.toNat < 2)
      case neg =>
        rw [if_pos a1]
        obtain ⟨T', h⟩ : ∃ T', f ⟨T, [rd sp (c :: bs)]⟩ = some (.pan (pv false), ⟨T', [rd sp bs]⟩) := by
          rw [← hf]
          rcases Nat.eq_zero_or_pos s with h0 | h0
          · have g1 : (c.toNat % step == 0) = false := by
              simp [h0] at a1; simp; omega
            exact ⟨_, by simp [ann, reg, rd, t0, h48, t10, t3, h0, hst0, w1, w2, g1, f49_f, mod_beq]; (first | rfl | exact ⟨rfl, rfl⟩ | exact ⟨rfl, rfl, rfl⟩)⟩
          · have g1 : ¬ (s : Int) < 63 := by omega
            have g2 : ¬ (c.toNat : Int) < 2 := by omega
            exact ⟨_, by simp [ann, reg, rd, t0, h48, t10, t3, h0, w1, w2, g1, g2, f49_f]; (first | rfl | exact ⟨rfl, rfl⟩ | exact ⟨rfl, rfl, rfl⟩)⟩
        exact ⟨T', bs, lpW_once h (by simp)⟩
      rw [if_neg (fun h => h a1)]
      have hp : 2 ^ (s + 7) = 128 * 2 ^ s := by rw [Nat.pow_add, Nat.mul_comm]
      have hmul : c.toNat % 128 * 2 ^ s + 2 ^ s ≤ 2 ^ 64 ∧ c.toNat % 128 * 2 ^ s + 2 ^ s ≤ 2 ^ (s + 7) := by
        have h3 : c.toNat % 128 * 2 ^ s ≤ 127 * 2 ^ s := Nat.mul_le_mul_right _ (by omega)
        rcases Nat.lt_or_ge s 63 with h | h
        · have : 2 ^ s ≤ 2 ^ 56 := Nat.pow_le_pow_right (by omega) (by omega)
          omega
        · have h2 : s = 63 := by omega
          subst h2
          have : c.toNat < 2 := by omega
          omega
      have hpos : 0 < 2 ^ s := Nat.pow_pos (by omega)
      have w3 : IntKind.u64.wrap ((c.toNat : Int) % 128) = (c.toNat : Int) % 128 := by rw [IntKind.wrap_u64]; omega
      have hmin : min s 64 = s := by omega
      have hmin' : (min (s : Int) 64).toNat = s := by omega
      obtain ⟨N, hN⟩ : ∃ N, n + c.toNat % 128 * 2 ^ s = N := ⟨_, rfl⟩
      have hX : ((c.toNat : Int) % 128 * 2 ^ s) = ((c.toNat % 128 * 2 ^ s : Nat) : Int) := by simp
      have w4 : IntKind.u64.wrap ((c.toNat : Int) % 128 * 2 ^ s) = (c.toNat : Int) % 128 * 2 ^ s := by rw [hX, IntKind.wrap_u64]; omega
      have m3 : bOr .u64 (n : Int) ((c.toNat : Int) % 128 * 2 ^ s) = (N : Int) := by
        have := bOr_up n (c.toNat % 128) s hn (by omega)
        rw [hN] at this
        simpa using this
      have hNlt : N < 18446744073709551616 := by omega
      have hNp : N < 2 ^ (s + 7) := by omega
      have hmust : ∀ T' : Env, True := fun _ => trivial
      rw [hN]
      have e7 : IntKind.i64.wrap ((s : Int) + 7) = (s : Int) + 7 := wrap64_in (by omega) (by omega)
      have a1' : (0 < s ∨ c.toNat % step = 0) := a1.1
      by_cases h128 : c.toNat < 128
      · rw [if_pos h128]
        have h128' : (c.toNat : Int) < 128 := by omega
        by_cases a2 : (least ≤ N ∧ N ≤ most) ∧ (0 < c.toNat ∨ s = 0)
        · rw [if_pos a2]
          obtain ⟨T', h, h8⟩ : ∃ T', f ⟨T, [rd sp (c :: bs)]⟩ = some (.ret, ⟨T', [rd sp bs]⟩) ∧ T'.lookup 8 = some (.v (.int .u64 (N : Int))) := by
            rw [← hf]
            rcases Nat.eq_zero_or_pos c.toNat with hc0 | hc0
            · have hcd : decide (0 < c.toNat) = false := by simp [hc0]
              rcases Nat.lt_or_ge s 63 with h63 | h63
              · skip
                rcases Nat.eq_zero_or_pos s with h0 | h0
                · have g1 : (c.toNat % step == 0) = true := by simpa [h0] using a1'
                  subst h0
                  simp at m3
                  skip
                  first | (exfalso; omega) | exact ⟨_, by simp [ann, reg, rd, t0, t1, t2, t9, h48, t10, t3, hst0, w1, w2, w3, f49_t, f49_f, mod_beq, bAnd_7, w4, m3, hmin, hmin', g1, hcd, h128', a2.1.1, a2.1.2]; (first | rfl | exact ⟨rfl, rfl⟩ | exact ⟨rfl, rfl, rfl⟩), by simp⟩
                · have h63' : (s : Int) < 63 := by omega
                  have hse : ((s : Int) == 0) = false := by simp; omega
                  first | (exfalso; omega) | exact ⟨_, by simp [ann, reg, rd, t0, t1, t2, t9, h48, t10, t3, hst0, w1, w2, w3, f49_t, f49_f, mod_beq, bAnd_7, w4, m3, hmin, hmin', h0, hse, h63', hcd, h128', a2.1.1, a2.1.2]; (first | rfl | exact ⟨rfl, rfl⟩ | exact ⟨rfl, rfl, rfl⟩), by simp⟩
              · have h0 : 0 < s := by omega
                have h63' : ¬ (s : Int) < 63 := by omega
                have hc2 : (c.toNat : Int) < 2 := by omega
                have hse : ((s : Int) == 0) = false := by simp; omega
                first | (exfalso; omega) | exact ⟨_, by simp [ann, reg, rd, t0, t1, t2, t9, h48, t10, t3, hst0, w1, w2, w3, f49_t, f49_f, mod_beq, bAnd_7, w4, m3, hmin, hmin', h0, hse, h63', hc2, hcd, h128', a2.1.1, a2.1.2]; (first | rfl | exact ⟨rfl, rfl⟩ | exact ⟨rfl, rfl, rfl⟩), by simp⟩
            · skip
              rcases Nat.lt_or_ge s 63 with h63 | h63
              · skip
                rcases Nat.eq_zero_or_pos s with h0 | h0
                · have g1 : (c.toNat % step == 0) = true := by simpa [h0] using a1'
                  subst h0
                  simp at m3
                  skip
                  first | (exfalso; omega) | exact ⟨_, by simp [ann, reg, rd, t0, t1, t2, t9, h48, t10, t3, hst0, w1, w2, w3, f49_t, f49_f, mod_beq, bAnd_7, w4, m3, hmin, hmin', g1, hc0, h128', a2.1.1, a2.1.2]; (first | rfl | exact ⟨rfl, rfl⟩ | exact ⟨rfl, rfl, rfl⟩), by simp⟩
                · have h63' : (s : Int) < 63 := by omega
                  have hse : ((s : Int) == 0) = false := by simp; omega
                  first | (exfalso; omega) | exact ⟨_, by simp [ann, reg, rd, t0, t1, t2, t9, h48, t10, t3, hst0, w1, w2, w3, f49_t, f49_f, mod_beq, bAnd_7, w4, m3, hmin, hmin', h0, hse, h63', hc0, h128', a2.1.1, a2.1.2]; (first | rfl | exact ⟨rfl, rfl⟩ | exact ⟨rfl, rfl, rfl⟩), by simp⟩
              · have h0 : 0 < s := by omega
                have h63' : ¬ (s : Int) < 63 := by omega
                have hc2 : (c.toNat : Int) < 2 := by omega
                have hse : ((s : Int) == 0) = false := by simp; omega
                first | (exfalso; omega) | exact ⟨_, by simp [ann, reg, rd, t0, t1, t2, t9, h48, t10, t3, hst0, w1, w2, w3, f49_t, f49_f, mod_beq, bAnd_7, w4, m3, hmin, hmin', h0, hse, h63', hc2, hc0, h128', a2.1.1, a2.1.2]; (first | rfl | exact ⟨rfl, rfl⟩ | exact ⟨rfl, rfl, rfl⟩), by simp⟩
          exact ⟨T', lpW_once h (by simp), h8⟩
        · rw [if_neg a2]
          obtain ⟨T', h⟩ : ∃ T', f ⟨T, [rd sp (c :: bs)]⟩ = some (.pan (pv false), ⟨T', [rd sp bs]⟩) := by
            rw [← hf]
            by_cases b1 : least ≤ N
            · by_cases b2 : N ≤ most
              · have hcd : decide (0 < c.toNat) = false := by simp; omega
                rcases Nat.lt_or_ge s 63 with h63 | h63
                · skip
                  rcases Nat.eq_zero_or_pos s with h0 | h0
                  · have g1 : (c.toNat % step == 0) = true := by simpa [h0] using a1'
                    subst h0
                    simp at m3
                    skip
                    first | (exfalso; omega) | exact ⟨_, by simp [ann, reg, rd, t0, t1, t2, t9, h48, t10, t3, hst0, w1, w2, w3, f49_t, f49_f, mod_beq, bAnd_7, w4, m3, hmin, hmin', g1, hcd, h128', b1, b2]; (first | rfl | exact ⟨rfl, rfl⟩ | exact ⟨rfl, rfl, rfl⟩)⟩
                  · have h63' : (s : Int) < 63 := by omega
                    have hse : ((s : Int) == 0) = false := by simp; omega
                    first | (exfalso; omega) | exact ⟨_, by simp [ann, reg, rd, t0, t1, t2, t9, h48, t10, t3, hst0, w1, w2, w3, f49_t, f49_f, mod_beq, bAnd_7, w4, m3, hmin, hmin', h0, hse, h63', hcd, h128', b1, b2]; (first | rfl | exact ⟨rfl, rfl⟩ | exact ⟨rfl, rfl, rfl⟩)⟩
                · have h0 : 0 < s := by omega
                  have h63' : ¬ (s : Int) < 63 := by omega
                  have hc2 : (c.toNat : Int) < 2 := by omega
                  have hse : ((s : Int) == 0) = false := by simp; omega
                  first | (exfalso; omega) | exact ⟨_, by simp [ann, reg, rd, t0, t1, t2, t9, h48, t10, t3, hst0, w1, w2, w3, f49_t, f49_f, mod_beq, bAnd_7, w4, m3, hmin, hmin', h0, hse, h63', hc2, hcd, h128', b1, b2]; (first | rfl | exact ⟨rfl, rfl⟩ | exact ⟨rfl, rfl, rfl⟩)⟩
              · skip
                rcases Nat.lt_or_ge s 63 with h63 | h63
                · skip
                  rcases Nat.eq_zero_or_pos s with h0 | h0
                  · have g1 : (c.toNat % step == 0) = true := by simpa [h0] using a1'
                    subst h0
                    simp at m3
                    skip
                    first | (exfalso; omega) | exact ⟨_, by simp [ann, reg, rd, t0, t1, t2, t9, h48, t10, t3, hst0, w1, w2, w3, f49_t, f49_f, mod_beq, bAnd_7, w4, m3, hmin, hmin', g1, h128', b1, b2]; (first | rfl | exact ⟨rfl, rfl⟩ | exact ⟨rfl, rfl, rfl⟩)⟩
                  · have h63' : (s : Int) < 63 := by omega
                    have hse : ((s : Int) == 0) = false := by simp; omega
                    first | (exfalso; omega) | exact ⟨_, by simp [ann, reg, rd, t0, t1, t2, t9, h48, t10, t3, hst0, w1, w2, w3, f49_t, f49_f, mod_beq, bAnd_7, w4, m3, hmin, hmin', h0, hse, h63', h128', b1, b2]; (first | rfl | exact ⟨rfl, rfl⟩ | exact ⟨rfl, rfl, rfl⟩)⟩
                · have h0 : 0 < s := by omega
                  have h63' : ¬ (s : Int) < 63 := by omega
                  have hc2 : (c.toNat : Int) < 2 := by omega
                  have hse : ((s : Int) == 0) = false := by simp; omega
                  first | (exfalso; omega) | exact ⟨_, by simp [ann, reg, rd, t0, t1, t2, t9, h48, t10, t3, hst0, w1, w2, w3, f49_t, f49_f, mod_beq, bAnd_7, w4, m3, hmin, hmin', h0, hse, h63', hc2, h128', b1, b2]; (first | rfl | exact ⟨rfl, rfl⟩ | exact ⟨rfl, rfl, rfl⟩)⟩
            · skip
              rcases Nat.lt_or_ge s 63 with h63 | h63
              · skip
                rcases Nat.eq_zero_or_pos s with h0 | h0
                · have g1 : (c.toNat % step == 0) = true := by simpa [h0] using a1'
                  subst h0
                  simp at m3
                  skip
                  first | (exfalso; omega) | exact ⟨_, by simp [ann, reg, rd, t0, t1, t2, t9, h48, t10, t3, hst0, w1, w2, w3, f49_t, f49_f, mod_beq, bAnd_7, w4, m3, hmin, hmin', g1, h128', b1]; (first | rfl | exact ⟨rfl, rfl⟩ | exact ⟨rfl, rfl, rfl⟩)⟩
                · have h63' : (s : Int) < 63 := by omega
                  have hse : ((s : Int) == 0) = false := by simp; omega
                  first | (exfalso; omega) | exact ⟨_, by simp [ann, reg, rd, t0, t1, t2, t9, h48, t10, t3, hst0, w1, w2, w3, f49_t, f49_f, mod_beq, bAnd_7, w4, m3, hmin, hmin', h0, hse, h63', h128', b1]; (first | rfl | exact ⟨rfl, rfl⟩ | exact ⟨rfl, rfl, rfl⟩)⟩
              · have h0 : 0 < s := by omega
                have h63' : ¬ (s : Int) < 63 := by omega
                have hc2 : (c.toNat : Int) < 2 := by omega
                have hse : ((s : Int) == 0) = false := by simp; omega
                first | (exfalso; omega) | exact ⟨_, by simp [ann, reg, rd, t0, t1, t2, t9, h48, t10, t3, hst0, w1, w2, w3, f49_t, f49_f, mod_beq, bAnd_7, w4, m3, hmin, hmin', h0, hse, h63', hc2, h128', b1]; (first | rfl | exact ⟨rfl, rfl⟩ | exact ⟨rfl, rfl, rfl⟩)⟩
          exact ⟨T', bs, lpW_once h (by simp)⟩
      · rw [if_neg h128]
        have h128' : ¬ (c.toNat : Int) < 128 := by omega
        have h63 : s ≤ 56 := by omega
        have hup : (s : Int) + 7 < 64 := by omega
        have hmin7 : min (s + 7) 64 = s + 7 := by omega
        have htn : ((s : Int) + 7).toNat = s + 7 := by omega
        have hup0 : (0 : Int) ≤ (s : Int) + 7 := by omega
        by_cases b2 : N ≤ most
        · rw [if_neg (fun h => h ⟨by omega, b2⟩)]
          have w5 : IntKind.u64.wrap ((most : Int) - (N : Int)) = ((most - N : Nat) : Int) := by rw [IntKind.wrap_u64]; omega
          obtain ⟨D, hD⟩ : ∃ D, most - N = D := ⟨_, rfl⟩
          obtain ⟨Mo, hMo⟩ : ∃ Mo, D / 2 ^ (s + 7) = Mo := ⟨_, rfl⟩
          have m4 : (D : Int).fdiv (2 ^ (s + 7)) = (Mo : Int) := by
            have := fdiv_nat D (2 ^ (s + 7))
            rw [hMo] at this
            simpa using this
          have hMD : Mo * 2 ^ (s + 7) ≤ D := by rw [← hMo]; exact Nat.div_mul_le_self _ _
          have hX2 : ((Mo : Int) * 2 ^ (s + 7)) = ((Mo * 2 ^ (s + 7) : Nat) : Int) := by simp
          have w6 : IntKind.u64.wrap ((Mo : Int) * 2 ^ (s + 7)) = (Mo : Int) * 2 ^ (s + 7) := by rw [hX2, IntKind.wrap_u64]; omega
          obtain ⟨R, hR⟩ : ∃ R, N + Mo * 2 ^ (s + 7) = R := ⟨_, rfl⟩
          have m5 : bOr .u64 (N : Int) ((Mo : Int) * 2 ^ (s + 7)) = (R : Int) := by
            have := bOr_up N Mo (s + 7) hNp (by omega)
            rw [hR] at this
            exact this
          rw [hD] at w5
          rw [hD, hMo, hR]
          by_cases b3 : 0 < Mo
          · by_cases b4 : least ≤ R
            · rw [if_neg (fun h => h ⟨b3, b4⟩)]
              obtain ⟨T1, q, q0, q1, q2, q3, q9, q10⟩ : ∃ T1, f ⟨T, [rd sp (c :: bs)]⟩ = some (.normal, ⟨T1, [rd sp bs]⟩) ∧ T1.lookup 0 = some (.ptr 0 0) ∧ T1.lookup 1 = some (.v (.int .u64 least)) ∧ T1.lookup 2 = some (.v (.int .u64 most)) ∧ T1.lookup 3 = some (.v (.int .u64 step)) ∧ T1.lookup 9 = some (.v (.int .u64 N)) ∧ T1.lookup 10 = some (.v (.int .i64 ((s + 7 : Nat) : Int))) := by
                rw [← hf]
                rcases Nat.eq_zero_or_pos s with h0 | h0
                · have g1 : (c.toNat % step == 0) = true := by simpa [h0] using a1'
                  subst h0
                  simp at m3
                  simp at m4 w6 m5
                  exact ⟨_, by simp [ann, reg, rd, t0, t1, t2, t9, h48, t10, t3, hst0, w1, w2, w3, f49_t, f49_f, mod_beq, bAnd_7, w4, m3, hmin, hmin', g1, h128', b2, e7, hup, hmin7, htn, hup0, w5, m4, w6, m5, b3, b4]; (first | rfl | exact ⟨rfl, rfl⟩ | exact ⟨rfl, rfl, rfl⟩), by simp [t0], by simp [t1], by simp [t2], by simp [t3], by simp, by simp [e7]⟩
                · have h63' : (s : Int) < 63 := by omega
                  have hse : ((s : Int) == 0) = false := by simp; omega
                  exact ⟨_, by simp [ann, reg, rd, t0, t1, t2, t9, h48, t10, t3, hst0, w1, w2, w3, f49_t, f49_f, mod_beq, bAnd_7, w4, m3, hmin, hmin', h0, hse, h63', h128', b2, e7, hup, hmin7, htn, hup0, w5, m4, w6, m5, b3, b4]; (first | rfl | exact ⟨rfl, rfl⟩ | exact ⟨rfl, rfl, rfl⟩), by simp [t0], by simp [t1], by simp [t2], by simp [t3], by simp, by simp [e7]⟩
              have ihh := ih (s + 7) N T1 hNp (by omega) (by omega) q0 q1 q2 q3 q9 q10
              cases hO : numL least most step bs (s + 7) N with
              | ok m rest =>
                rw [hO] at ihh
                obtain ⟨T', r1, r2⟩ := ihh
                exact ⟨T', lpW_first q r1, r2⟩
              | bad u =>
                rw [hO] at ihh
                obtain ⟨T', bs', r1⟩ := ihh
                exact ⟨T', bs', lpW_first q r1⟩
            · rw [if_pos (fun h => b4 h.2)]
              obtain ⟨T', h⟩ : ∃ T', f ⟨T, [rd sp (c :: bs)]⟩ = some (.pan (pv false), ⟨T', [rd sp bs]⟩) := by
                rw [← hf]
                rcases Nat.eq_zero_or_pos s with h0 | h0
                · have g1 : (c.toNat % step == 0) = true := by simpa [h0] using a1'
                  subst h0
                  simp at m3
                  simp at m4 w6 m5
                  first | (exfalso; omega) | exact ⟨_, by simp [ann, reg, rd, t0, t1, t2, t9, h48, t10, t3, hst0, w1, w2, w3, f49_t, f49_f, mod_beq, bAnd_7, w4, m3, hmin, hmin', g1, h128', b2, e7, hup, hmin7, htn, hup0, w5, m4, w6, m5, b3, b4]; (first | rfl | exact ⟨rfl, rfl⟩ | exact ⟨rfl, rfl, rfl⟩)⟩
                · have h63' : (s : Int) < 63 := by omega
                  have hse : ((s : Int) == 0) = false := by simp; omega
                  first | (exfalso; omega) | exact ⟨_, by simp [ann, reg, rd, t0, t1, t2, t9, h48, t10, t3, hst0, w1, w2, w3, f49_t, f49_f, mod_beq, bAnd_7, w4, m3, hmin, hmin', h0, hse, h63', h128', b2, e7, hup, hmin7, htn, hup0, w5, m4, w6, m5, b3, b4]; (first | rfl | exact ⟨rfl, rfl⟩ | exact ⟨rfl, rfl, rfl⟩)⟩
              exact ⟨T', bs, lpW_once h (by simp)⟩
          · rw [if_pos (fun h => b3 h.1)]
            have b3' : decide (0 < Mo) = false := by simp; omega
            obtain ⟨T', h⟩ : ∃ T', f ⟨T, [rd sp (c :: bs)]⟩ = some (.pan (pv false), ⟨T', [rd sp bs]⟩) := by
              rw [← hf]
              rcases Nat.eq_zero_or_pos s with h0 | h0
              · have g1 : (c.toNat % step == 0) = true := by simpa [h0] using a1'
                subst h0
                simp at m3
                simp at m4 w6 m5
                first | (exfalso; omega) | exact ⟨_, by simp [ann, reg, rd, t0, t1, t2, t9, h48, t10, t3, hst0, w1, w2, w3, f49_t, f49_f, mod_beq, bAnd_7, w4, m3, hmin, hmin', g1, h128', b2, e7, hup, hmin7, htn, hup0, w5, m4, w6, m5, b3']; (first | rfl | exact ⟨rfl, rfl⟩ | exact ⟨rfl, rfl, rfl⟩)⟩
              · have h63' : (s : Int) < 63 := by omega
                have hse : ((s : Int) == 0) = false := by simp; omega
                first | (exfalso; omega) | exact ⟨_, by simp [ann, reg, rd, t0, t1, t2, t9, h48, t10, t3, hst0, w1, w2, w3, f49_t, f49_f, mod_beq, bAnd_7, w4, m3, hmin, hmin', h0, hse, h63', h128', b2, e7, hup, hmin7, htn, hup0, w5, m4, w6, m5, b3']; (first | rfl | exact ⟨rfl, rfl⟩ | exact ⟨rfl, rfl, rfl⟩)⟩
            exact ⟨T', bs, lpW_once h (by simp)⟩
        · rw [if_pos (fun h => b2 h.2)]
          obtain ⟨T', h⟩ : ∃ T', f ⟨T, [rd sp (c :: bs)]⟩ = some (.pan (pv false), ⟨T', [rd sp bs]⟩) := by
            rw [← hf]
            rcases Nat.eq_zero_or_pos s with h0 | h0
            · have g1 : (c.toNat % step == 0) = true := by simpa [h0] using a1'
              subst h0
              simp at m3
              skip
              first | (exfalso; omega) | exact ⟨_, by simp [ann, reg, rd, t0, t1, t2, t9, h48, t10, t3, hst0, w1, w2, w3, f49_t, f49_f, mod_beq, bAnd_7, w4, m3, hmin, hmin', g1, h128', b2, e7, hup]; (first | rfl | exact ⟨rfl, rfl⟩ | exact ⟨rfl, rfl, rfl⟩)⟩
            · have h63' : (s : Int) < 63 := by omega
              have hse : ((s : Int) == 0) = false := by simp; omega
              first | (exfalso; omega) | exact ⟨_, by simp [ann, reg, rd, t0, t1, t2, t9, h48, t10, t3, hst0, w1, w2, w3, f49_t, f49_f, mod_beq, bAnd_7, w4, m3, hmin, hmin', h0, hse, h63', h128', b2, e7, hup]; (first | rfl | exact ⟨rfl, rfl⟩ | exact ⟨rfl, rfl, rfl⟩)⟩
          exact ⟨T', bs, lpW_once h (by simp)⟩
  have key0 : match numL least most step bs 0 0 with
        | .ok m rest => ∃ T', res = some (.ret, ⟨T', [rd sp rest]⟩) ∧ T'.lookup 8 = some (.v (.int .u64 (m : Int)))
        | .bad u => ∃ T' bs', res = some (.pan (pv u), ⟨T', [rd sp bs']⟩) := by
    rw [← hres]
    exact key bs 0 0 _ (by simp) (by omega) rfl (by simp) (by simp) (by simp) (by simp) (by simp) (by simp)
  clear hf key hres
  cases hO : numL least most step bs 0 0 with
  | ok m rest =>
    rw [hO] at key0
    obtain ⟨T', r1, r2⟩ := key0
    subst r1
    simp [ann, reg, RO, gRd, rd, r2]
  | bad u =>
    rw [hO] at key0
    obtain ⟨T', bs', r1⟩ := key0
    subst r1
    refine ⟨[rd sp bs'], ⟨bs', rfl⟩, ?_⟩
    simp [ann, reg, rd]
end
section
set_option maxHeartbeats 4000000
attribute [local simp] pr_conv bstr_toList
def rkind (k deep : Int) : Bool := known k && (decide (0 < deep) || !holds k)
theorem f54_t {sp : List UInt8} {k deep : Int} {bs : List UInt8} (h : rkind k deep = true) : ev 54 [.ptr 0 0, .v (.int .i64 k), .v (.int .i64 deep)] [rd sp bs] = some (.ret (.v (.int .i64 k)), [rd sp bs]) := by
  unfold rkind at h
  cases hk : known k
  · simp [hk] at h
  refine ev_fn Try.func54 rfl rfl (Nat.le_of_ble_eq_true rfl) ?_
  by_cases hd : 0 < deep
  · simp [ann, reg, Try.f54, f64, f70, f49_t, hk, hd]
  · cases hh : holds k
    · simp [ann, reg, Try.f54, f64, f70, f49_t, hk, hd, hh]
    · simp [hk, hh, hd] at h
theorem f54_f {sp : List UInt8} {k deep : Int} {bs : List UInt8} (h : rkind k deep = false) : ev 54 [.ptr 0 0, .v (.int .i64 k), .v (.int .i64 deep)] [rd sp bs] = some (.pan (pv false), [rd sp bs]) := by
  unfold rkind at h
  refine ev_fn Try.func54 rfl rfl (Nat.le_of_ble_eq_true rfl) ?_
  cases hk : known k
  · simp [ann, reg, Try.f54, f64, f49_f, hk]
  by_cases hd : 0 < deep
  · simp [hk, hd] at h
  · cases hh : holds k
    · simp [hk, hh, hd] at h
    · simp [ann, reg, Try.f54, f64, f70, f49_f, hk, hd, hh]
def unzig (n : Nat) : Int := if n % 2 = 1 then -((n / 2 : Nat) : Int) - 1 else ((n / 2 : Nat) : Int)
theorem bXor_unzig {n : Nat} (h : n < 18446744073709551616) : bXor .i64 ((n / 2 : Nat) : Int) (IntKind.i64.wrap (0 - ((n % 2 : Nat) : Int))) = unzig n := by
  have e0 : n % 2 = 0 ∨ n % 2 = 1 := by omega
  unfold bXor unzig
  rcases e0 with e | e
  · rw [e]
    have w : IntKind.i64.wrap (0 - ((0 : Nat) : Int)) = 0 := by rw [wrap64_in] <;> omega
    rw [w]
    show IntKind.i64.wrap (((BitVec.ofInt 64 ((n / 2 : Nat) : Int) ^^^ 0#64).toNat : Nat) : Int) = _
    rw [BitVec.xor_zero, BitVec.toNat_ofInt]
    rw [wrap64_in (by omega) (by omega)]
    simp
    omega
  · rw [e]
    have w : IntKind.i64.wrap (0 - ((1 : Nat) : Int)) = -1 := by rw [wrap64_in] <;> omega
    rw [w]
    show IntKind.i64.wrap (((BitVec.ofInt 64 ((n / 2 : Nat) : Int) ^^^ BitVec.allOnes 64).toNat : Nat) : Int) = _
    rw [BitVec.xor_allOnes, BitVec.toNat_not, BitVec.toNat_ofInt]
    simp only [if_true]
    have : (((n / 2 : Nat) : Int) % ((2 ^ 64 : Nat) : Int)).toNat = n / 2 := by omega
    rw [this]
    have h2 : ((2 ^ 64 - 1 - n / 2 : Nat) : Int) = 18446744073709551615 - ((n / 2 : Nat) : Int) := by omega
    rw [h2]
    unfold IntKind.wrap
    simp [IntKind.signed, IntKind.bits]
    omega
def rsigned (b : Nat) (bs : List UInt8) : Out Int := (numL 0 (2 ^ b - 1) 1 bs 0 0).bind fun n r => .ok (unzig n) r
theorem numL_le (least most step : Nat) : ∀ (bs : List UInt8) (s n : Nat) {m : Nat} {r : List UInt8}, numL least most step bs s n = .ok m r → least ≤ m ∧ m ≤ most ∧ r.length < bs.length
  | [], s, n, m, r, h => by simp [numL] at h
  | c :: bs, s, n, m, r, h => by
    unfold numL at h
    split at h
    · cases h
    · split at h
      · split at h
        · rename_i h3
          simp only [Out.ok.injEq] at h
          obtain ⟨rfl, rfl⟩ := h
          exact ⟨h3.1.1, h3.1.2, by simp⟩
        · cases h
      · split at h
        · cases h
        · split at h
          · cases h
          · have := numL_le least most step bs _ _ h
            exact ⟨this.1, this.2.1, by simp; omega⟩
theorem f50 (sp : List UInt8) (b : Nat) (hb : b = 16 ∨ b = 32 ∨ b = 64) (bs : List UInt8) : RO (ev 50 [.ptr 0 0, .v (.int .i64 b)] [rd sp bs]) (gRd sp fun x : Int => .v (.int .i64 x)) (isRd sp) (rsigned b bs) := by
  have h53 := f53 sp 0 (2 ^ b - 1) 1 (by omega) (by rcases hb with rfl | rfl | rfl <;> omega) (.inl rfl) bs
  have wf : ∀ n : Nat, n < 18446744073709551616 → (n : Int).fdiv 2 = ((n / 2 : Nat) : Int) := fun n _ => fdiv_nat n 2
  refine ev_fnO Try.func50 rfl rfl (Nat.le_of_ble_eq_true rfl) ?_
  unfold rsigned
  cases hO : numL 0 (2 ^ b - 1) 1 bs 0 0 with
  | ok n r =>
    have h := h53.ok hO
    have hn := (numL_le _ _ _ _ _ _ hO).2.1
    have hn' : n < 18446744073709551616 := by rcases hb with rfl | rfl | rfl <;> omega
    have e1 : bAnd .u64 (n : Int) 1 = ((n % 2 : Nat) : Int) := by
      unfold bAnd
      show IntKind.u64.wrap (((BitVec.ofInt 64 (n : Int) &&& 1#64).toNat : Nat) : Int) = _
      have g : (BitVec.ofInt 64 (n : Int) &&& 1#64).toNat = (BitVec.ofInt 64 (n : Int)).toNat % 2 := by
        rw [BitVec.toNat_and]
        exact Nat.and_two_pow_sub_one_eq_mod _ 1
      rw [g, BitVec.toNat_ofInt, IntKind.wrap_u64]
      omega
    obtain ⟨q, hq⟩ : ∃ q, n / 2 = q := ⟨_, rfl⟩
    obtain ⟨p, hp⟩ : ∃ p, n % 2 = p := ⟨_, rfl⟩
    have e2 := bXor_unzig hn'
    rw [hq, hp] at e2
    rw [hp] at e1
    have e3 := wf n hn'
    rw [hq] at e3
    have e4 : IntKind.i64.wrap (q : Int) = (q : Int) := wrap64_in (by omega) (by omega)
    have e5 : IntKind.i64.wrap (p : Int) = (p : Int) := wrap64_in (by omega) (by omega)
    simp only [Out.bind, RO, gRd] at h ⊢
    simp [rd] at h
    rcases hb with rfl | rfl | rfl
    · have w1 : IntKind.u64.wrap 65536 = 65536 := by rw [IntKind.wrap_u64]; rfl
      have w2 : IntKind.u64.wrap 65535 = 65535 := by rw [IntKind.wrap_u64]; rfl
      simp at h
      simp [ann, reg, Try.f50, rd, w1, w2, h, e1, e2, e3, e4, e5]
      simpa using e2
    · have w1 : IntKind.u64.wrap 4294967296 = 4294967296 := by rw [IntKind.wrap_u64]; rfl
      have w2 : IntKind.u64.wrap 4294967295 = 4294967295 := by rw [IntKind.wrap_u64]; rfl
      simp at h
      simp [ann, reg, Try.f50, rd, w1, w2, h, e1, e2, e3, e4, e5]
      simpa using e2
    · have w1 : IntKind.u64.wrap 18446744073709551616 = 0 := by rw [IntKind.wrap_u64]; rfl
      have w2 : IntKind.u64.wrap (-1) = 18446744073709551615 := by rw [IntKind.wrap_u64]; rfl
      simp at h
      simp [ann, reg, Try.f50, rd, w1, w2, h, e1, e2, e3, e4, e5]
      simpa using e2
  | bad s =>
    obtain ⟨M', ⟨bs', rfl⟩, h⟩ := h53.bad hO
    refine ⟨[rd sp bs'], ⟨bs', rfl⟩, ?_⟩
    simp [rd] at h
    rcases hb with rfl | rfl | rfl
    · have w1 : IntKind.u64.wrap 65536 = 65536 := by rw [IntKind.wrap_u64]; rfl
      have w2 : IntKind.u64.wrap 65535 = 65535 := by rw [IntKind.wrap_u64]; rfl
      simp at h
      simp [ann, reg, Try.f50, rd, w1, w2, h]
    · have w1 : IntKind.u64.wrap 4294967296 = 4294967296 := by rw [IntKind.wrap_u64]; rfl
      have w2 : IntKind.u64.wrap 4294967295 = 4294967295 := by rw [IntKind.wrap_u64]; rfl
      simp at h
      simp [ann, reg, Try.f50, rd, w1, w2, h]
    · have w1 : IntKind.u64.wrap 18446744073709551616 = 0 := by rw [IntKind.wrap_u64]; rfl
      have w2 : IntKind.u64.wrap (-1) = 18446744073709551615 := by rw [IntKind.wrap_u64]; rfl
      simp at h
      simp [ann, reg, Try.f50, rd, w1, w2, h]
end
section
set_option maxHeartbeats 4000000
attribute [local simp] pr_conv bstr_toList
def sreps {α : Type} (f : List UInt8 → Out α) : Nat → List UInt8 → Out (List α)
  | 0, bs => .ok [] bs
  | n + 1, bs => (f bs).bind fun a r => (sreps f n r).bind fun l r' => .ok (a :: l) r'
def rbyte : List UInt8 → Out UInt8
  | [] => .bad true
  | c :: bs => .ok c bs
theorem u64_up {j : Nat} (h : j < 1000000000) : IntKind.u64.wrap ((j : Int) + 1) = ((j + 1 : Nat) : Int) := by rw [IntKind.wrap_u64]; omega
set_option maxRecDepth 20000 in
set_option maxHeartbeats 8000000 in
theorem f52 (sp : List UInt8) (N : Nat) (hN : N ≤ 1000000) (bs : List UInt8) : RO (ev 52 [.v (.int .u64 N), .fn (.func 48) [.ptr 0 0] []] [rd sp bs]) (gRd sp fun l : List UInt8 => .sl (bRows l) []) (isRd sp) (sreps rbyte N bs) := by
  refine ev_fnO Try.func52 rfl rfl (Nat.le_of_ble_eq_true rfl) ?_
  simp [ann, reg, Try.f52, nilT, isNil]
  generalize hres : runLoop _ _ _ _ = res
  unfold runLoop at hres
  generalize hf : evCode _ _ _ = f at hres
  have key : ∀ (n : Nat) (j ver : Nat) (acc bs : List UInt8) (T : Env) (ex : Mem), j + n = N → acc.length = j → T.lookup 1 = some (.fn (.func 48) [.ptr 0 0] []) → T.lookup 7 = some (.v (.int .u64 N)) → T.lookup 8 = some (.v (.int .u64 j)) → T.lookup 5 = some (.so 1 ver 0 j) →
      match sreps rbyte n bs with
      | .ok l r => ∃ T' ver', lpW f ⟨T, rd sp bs :: .row ver 1 (bRows acc) :: ex⟩ = some (.exit 0, ⟨T', [rd sp r, .row ver' 1 (bRows (acc ++ l))]⟩) ∧ T'.lookup 5 = some (.so 1 ver' 0 (acc ++ l).length)
      | .bad s => ∃ T' r ex', lpW f ⟨T, rd sp bs :: .row ver 1 (bRows acc) :: ex⟩ = some (.pan (pv s), ⟨T', rd sp r :: ex'⟩) := by
    intro n
    induction n with
    | zero =>
      intro j ver acc bs T ex hj hl t1 t7 t8 t5
      have hlt : ¬ (j : Int) < (N : Int) := by omega
      exact ⟨_, ver, lpW_once (by rw [← hf]; simp [ann, reg, rd, t1, t7, t8, t5, hlt]; (first | rfl | exact ⟨rfl, rfl⟩ | exact ⟨rfl, rfl, rfl⟩)) (by simp), by simp [t5, hl]⟩
    | succ n ih =>
      intro j ver acc bs T ex hj hl t1 t7 t8 t5
      have hlt : (j : Int) < (N : Int) := by omega
      cases bs with
      | nil =>
        have h48 := f48_nil sp
        simp [rd] at h48
        exact ⟨_, [], _, lpW_once (by rw [← hf]; simp [ann, reg, rd, t1, t7, t8, t5, hlt, h48]; (first | rfl | exact ⟨rfl, rfl⟩ | exact ⟨rfl, rfl, rfl⟩)) (by simp)⟩
      | cons c bs =>
        have h48 := f48 sp c bs
        simp [rd] at h48
        have e1 := u64_up (j := j) (by omega)
        have e2 : acc.length + 1 ≤ 140737488355328 := by omega
        subst hl
        obtain ⟨T1, M1, q, q1, q7, q8, q5⟩ : ∃ T1 M1, f ⟨T, rd sp (c :: bs) :: .row ver 1 (bRows acc) :: ex⟩ = some (.normal, ⟨T1, rd sp bs :: .row (ver + 1) 1 (bRows (acc ++ [c])) :: M1⟩) ∧ T1.lookup 1 = some (.fn (.func 48) [.ptr 0 0] []) ∧ T1.lookup 7 = some (.v (.int .u64 N)) ∧ T1.lookup 8 = some (.v (.int .u64 ((acc.length + 1 : Nat) : Int))) ∧ T1.lookup 5 = some (.so 1 (ver + 1) 0 (acc.length + 1)) :=
          ⟨_, _, by rw [← hf]; simp [ann, reg, rd, t1, t7, t8, t5, hlt, h48, bRows_app, bRows_one, e1, e2]; (first | rfl | exact ⟨rfl, rfl⟩ | exact ⟨rfl, rfl, rfl⟩), by simp [t1], by simp [t7], by simp, by simp⟩
        have ihh := ih (acc.length + 1) (ver + 1) (acc ++ [c]) bs T1 M1 (by omega) (by simp) q1 q7 q8 q5
        simp only [sreps, rbyte, Out.bind]
        cases hO : sreps rbyte n bs with
        | ok l r =>
          rw [hO] at ihh
          obtain ⟨T', ver', r1, r2⟩ := ihh
          rw [show acc ++ [c] ++ l = acc ++ c :: l by simp] at r1 r2
          exact ⟨T', ver', lpW_first q r1, r2⟩
        | bad s =>
          rw [hO] at ihh
          obtain ⟨T', r, ex', r1⟩ := ihh
          exact ⟨T', r, ex', lpW_first q r1⟩
  have key0 : match sreps rbyte N bs with
      | .ok l r => ∃ T' ver', res = some (.exit 0, ⟨T', [rd sp r, .row ver' 1 (bRows l)]⟩) ∧ T'.lookup 5 = some (.so 1 ver' 0 l.length)
      | .bad s => ∃ T' r ex, res = some (.pan (pv s), ⟨T', rd sp r :: ex⟩) := by
    rw [← hres]
    exact key N 0 0 [] bs _ [] (by omega) rfl (by simp) (by simp) (by simp) (by simp)
  clear hf key hres
  cases hO : sreps rbyte N bs with
  | ok l r =>
    rw [hO] at key0
    obtain ⟨T', ver', r1, r2⟩ := key0
    subst r1
    simp [ann, reg, RO, gRd, rd, r2]
  | bad s =>
    rw [hO] at key0
    obtain ⟨T', r, ex, r1⟩ := key0
    subst r1
    refine ⟨[rd sp r], ⟨r, rfl⟩, ?_⟩
    simp [ann, reg, rd]
end
end Go.Proofs.Th
/- THRIFT: what a reader of values comes to: plain. -/
open Go Go.Ag
namespace Go.Proofs.Th
def i8 (c : UInt8) : Int := if c.toNat < 128 then (c.toNat : Int) else (c.toNat : Int) - 256
def lev : List UInt8 → Nat
  | [] => 0
  | c :: l => c.toNat + 256 * lev l
def dbl (l : List UInt8) : Int := IntKind.i64.wrap (lev l : Int)
def kbits (k : Int) : Nat := if k = 4 then 16 else if k = 5 then 32 else 64
def rflat (k : Int) (bs : List UInt8) : Out Th :=
  if k = 1 then (rbyte bs).bind fun c r => if c.toNat = 1 ∨ c.toNat = 2 then .ok (.mk 1 0 0 (2 - (c.toNat : Int)) [] [] []) r else .bad false
  else if k = 3 then (rbyte bs).bind fun c r => .ok (.mk 3 0 0 (i8 c) [] [] []) r
  else if k = 4 ∨ k = 5 ∨ k = 6 then (rsigned (kbits k) bs).bind fun x r => .ok (.mk k 0 0 x [] [] []) r
  else if k = 7 then (sreps rbyte 8 bs).bind fun l r => .ok (.mk 7 0 0 (dbl l) [] [] []) r
  else if k = 8 then (numL 0 1048576 1 bs 0 0).bind fun n r => if r.length < n then .bad true else .ok (.mk 8 0 0 0 (r.take n) [] []) (r.drop n)
  else .ok (.mk k 0 0 0 [] [] []) bs
def rwithin (c : UInt8) (d : Nat) : Int := if c.toNat / 16 = 0 then 1 else (d : Int)
def ralt (f g : List UInt8 → Out Th) : Nat → List UInt8 → Out (List Th)
  | 0, bs => .ok [] bs
  | n + 1, bs => (f bs).bind fun a r => (ralt g f n r).bind fun l r' => .ok (a :: l) r'
section
variable (f : Int → List UInt8 → Out Th) (d : Nat)
def rlistF (bs : List UInt8) : Out Th :=
  (rbyte bs).bind fun c r =>
    if rkind ((c.toNat % 16 : Nat) : Int) (rwithin c d) = false then .bad false
    else (if c.toNat / 16 = 15 then numL 15 65536 1 r 0 0 else .ok (c.toNat / 16) r).bind fun m r =>
      (sreps (f ((c.toNat % 16 : Nat) : Int)) m r).bind fun l r => .ok (.mk 9 0 ((c.toNat % 16 : Nat) : Int) 0 [] [] l) r
def rmapF (bs : List UInt8) : Out Th :=
  (numL 0 65536 1 bs 0 0).bind fun n r =>
    if n = 0 then .ok (.mk 11 0 0 0 [] [] []) r
    else (rbyte r).bind fun c r =>
      if rkind ((c.toNat / 16 : Nat) : Int) d = false then .bad false
      else if rkind ((c.toNat % 16 : Nat) : Int) d = false then .bad false
      else (ralt (f ((c.toNat / 16 : Nat) : Int)) (f ((c.toNat % 16 : Nat) : Int)) (2 * n) r).bind fun l r => .ok (.mk 11 ((c.toNat / 16 : Nat) : Int) ((c.toNat % 16 : Nat) : Int) 0 [] [] l) r
def truth (c : UInt8) : Bool := c.toNat % 16 == 1 || c.toNat % 16 == 2
def rid (last : Nat) (c : UInt8) (r : List UInt8) : Out Nat :=
  if c.toNat / 16 = 0 then (if 32767 < last + 16 then .bad false else (numL (2 * (last + 16)) 65534 2 r 0 0).bind fun n r => .ok (n / 2) r) else .ok (last + c.toNat / 16) r
def rfld (last : Nat) (bs : List UInt8) : Out (Option (Nat × Th)) :=
  (rbyte bs).bind fun c r =>
    if c.toNat = 0 then .ok none r
    else if truth c = false ∧ rkind ((c.toNat % 16 : Nat) : Int) d = false then .bad false
    else (rid last c r).bind fun id r =>
      if 32767 < id then .bad false
      else (if truth c = true then .ok (.mk 1 0 0 (2 - ((c.toNat % 16 : Nat) : Int)) [] [] []) r else f ((c.toNat % 16 : Nat) : Int) r).bind fun x r => .ok (some (id, x)) r
def rflds : Nat → Nat → List UInt8 → Out (List Nat × List Th)
  | 0, _, _ => .bad true
  | n + 1, last, bs => (rfld f d last bs).bind fun o r => match o with
    | none => .ok ([], []) r
    | some (id, x) => (rflds n id r).bind fun p r => .ok (id :: p.1, x :: p.2) r
def rstrF (bs : List UInt8) : Out Th := (rflds f d (bs.length + 1) 0 bs).bind fun p r => .ok (.mk 12 0 0 0 [] (p.1.map fun n : Nat => (n : Int)) p.2) r
end
def rval : Nat → Int → List UInt8 → Out Th
  | 0, k, bs => rflat k bs
  | d + 1, k, bs => if k = 9 then rlistF (rval d) d bs else if k = 11 then rmapF (rval d) d bs else if k = 12 then rstrF (rval d) d bs else rflat k bs
def Less {α : Type} (f : List UInt8 → Out α) : Prop := ∀ bs a r, f bs = .ok a r → r.length ≤ bs.length
theorem bind_ok {α β : Type} {o : Out α} {f : α → List UInt8 → Out β} {b : β} {r : List UInt8} (h : o.bind f = .ok b r) : ∃ a r', o = .ok a r' ∧ f a r' = .ok b r := by
  cases o with
  | ok a r' => exact ⟨a, r', rfl, h⟩
  | bad s => cases h
theorem rbyte_ok {bs : List UInt8} {c : UInt8} {r : List UInt8} (h : rbyte bs = .ok c r) : bs = c :: r := by
  cases bs with
  | nil => cases h
  | cons x xs => simp only [rbyte, Out.ok.injEq] at h; obtain ⟨rfl, rfl⟩ := h; rfl
theorem sreps_less {α : Type} {f : List UInt8 → Out α} (hf : Less f) : ∀ n, Less (sreps f n)
  | 0, bs, a, r, h => by simp only [sreps, Out.ok.injEq] at h; rw [h.2]; exact Nat.le_refl _
  | n + 1, bs, a, r, h => by
    obtain ⟨x, r1, h1, h2⟩ := bind_ok h
    obtain ⟨l, r2, h3, h4⟩ := bind_ok h2
    simp only [Out.ok.injEq] at h4
    have := hf _ _ _ h1
    have := sreps_less hf n _ _ _ h3
    rw [← h4.2]; omega
theorem ralt_less : ∀ (n : Nat) {f g : List UInt8 → Out Th}, Less f → Less g → Less (ralt f g n)
  | 0, f, g, hf, hg, bs, a, r, h => by simp only [ralt, Out.ok.injEq] at h; rw [h.2]; exact Nat.le_refl _
  | n + 1, f, g, hf, hg, bs, a, r, h => by
    obtain ⟨x, r1, h1, h2⟩ := bind_ok h
    obtain ⟨l, r2, h3, h4⟩ := bind_ok h2
    simp only [Out.ok.injEq] at h4
    have := hf _ _ _ h1
    have := ralt_less n hg hf _ _ _ h3
    rw [← h4.2]; omega
theorem rbyte_less : Less rbyte := fun bs c r h => by rw [rbyte_ok h]; simp
theorem rid_less (last : Nat) (c : UInt8) : Less (rid last c) := fun bs a r h => by
  unfold rid at h
  split at h
  · split at h
    · cases h
    · obtain ⟨n, r1, h1, h2⟩ := bind_ok h
      simp only [Out.ok.injEq] at h2
      have := numL_le _ _ _ _ _ _ h1
      rw [← h2.2]; omega
  · simp only [Out.ok.injEq] at h; rw [h.2]; exact Nat.le_refl _
theorem rfld_less {f : Int → List UInt8 → Out Th} (hf : ∀ k, Less (f k)) (d last : Nat) (bs : List UInt8) (o : Option (Nat × Th)) (r : List UInt8) (h : rfld f d last bs = .ok o r) : r.length < bs.length := by
  obtain ⟨c, r1, h1, h2⟩ := bind_ok h
  rw [rbyte_ok h1]
  split at h2
  · simp only [Out.ok.injEq] at h2; rw [h2.2]; simp
  · split at h2
    · cases h2
    · obtain ⟨id, r2, h3, h4⟩ := bind_ok h2
      have g1 := rid_less _ _ _ _ _ h3
      split at h4
      · cases h4
      · obtain ⟨x, r3, h5, h6⟩ := bind_ok h4
        simp only [Out.ok.injEq] at h6
        have g2 : r3.length ≤ r2.length := by
          split at h5
          · simp only [Out.ok.injEq] at h5; rw [h5.2]; exact Nat.le_refl _
          · exact hf _ _ _ _ h5
        rw [← h6.2]
        simp; omega
theorem rflds_less {f : Int → List UInt8 → Out Th} (hf : ∀ k, Less (f k)) (d : Nat) : ∀ n last, Less (rflds f d n last)
  | 0, last, bs, a, r, h => by cases h
  | n + 1, last, bs, a, r, h => by
    obtain ⟨o, r1, h1, h2⟩ := bind_ok h
    have := rfld_less hf d last _ _ _ h1
    cases o with
    | none => simp only [Out.ok.injEq] at h2; rw [← h2.2]; omega
    | some q =>
      obtain ⟨p, r2, h3, h4⟩ := bind_ok h2
      simp only [Out.ok.injEq] at h4
      have := rflds_less hf d n _ _ _ _ h3
      rw [← h4.2]; omega
theorem rsigned_less (b : Nat) : Less (rsigned b) := fun bs a r h => by
  obtain ⟨n, r1, h1, h2⟩ := bind_ok h
  simp only [Out.ok.injEq] at h2
  have := numL_le _ _ _ _ _ _ h1
  rw [← h2.2]; omega
theorem rflat_less (k : Int) : Less (rflat k) := fun bs a r h => by
  unfold rflat at h
  split at h
  · obtain ⟨c, r1, h1, h2⟩ := bind_ok h
    have := rbyte_less _ _ _ h1
    split at h2
    · simp only [Out.ok.injEq] at h2; rw [← h2.2]; exact this
    · cases h2
  split at h
  · obtain ⟨c, r1, h1, h2⟩ := bind_ok h
    simp only [Out.ok.injEq] at h2; rw [← h2.2]; exact rbyte_less _ _ _ h1
  split at h
  · obtain ⟨c, r1, h1, h2⟩ := bind_ok h
    simp only [Out.ok.injEq] at h2; rw [← h2.2]; exact rsigned_less _ _ _ _ h1
  split at h
  · obtain ⟨c, r1, h1, h2⟩ := bind_ok h
    simp only [Out.ok.injEq] at h2; rw [← h2.2]; exact sreps_less rbyte_less _ _ _ _ h1
  split at h
  · obtain ⟨c, r1, h1, h2⟩ := bind_ok h
    have := numL_le _ _ _ _ _ _ h1
    split at h2
    · cases h2
    · simp only [Out.ok.injEq] at h2; rw [← h2.2]; simp; omega
  · simp only [Out.ok.injEq] at h; rw [h.2]; exact Nat.le_refl _
theorem rval_less : ∀ d k, Less (rval d k)
  | 0, k => rflat_less k
  | d + 1, k => fun bs a r h => by
    have ih := rval_less d
    unfold rval at h
    split at h
    · obtain ⟨c, r1, h1, h2⟩ := bind_ok h
      have g1 := rbyte_less _ _ _ h1
      split at h2
      · cases h2
      · obtain ⟨m, r2, h3, h4⟩ := bind_ok h2
        have g2 : r2.length ≤ r1.length := by
          split at h3
          · have := numL_le _ _ _ _ _ _ h3; omega
          · simp only [Out.ok.injEq] at h3; rw [h3.2]; exact Nat.le_refl _
        obtain ⟨l, r3, h5, h6⟩ := bind_ok h4
        simp only [Out.ok.injEq] at h6
        have := sreps_less (ih _) _ _ _ _ h5
        rw [← h6.2]; omega
    split at h
    · obtain ⟨n, r1, h1, h2⟩ := bind_ok h
      have g1 := (numL_le _ _ _ _ _ _ h1).2.2
      split at h2
      · simp only [Out.ok.injEq] at h2; rw [← h2.2]; omega
      · obtain ⟨c, r2, h3, h4⟩ := bind_ok h2
        have g2 := rbyte_less _ _ _ h3
        split at h4
        · cases h4
        split at h4
        · cases h4
        obtain ⟨l, r3, h5, h6⟩ := bind_ok h4
        simp only [Out.ok.injEq] at h6
        have := ralt_less _ (ih _) (ih _) _ _ _ h5
        rw [← h6.2]; omega
    split at h
    · obtain ⟨p, r1, h1, h2⟩ := bind_ok h
      simp only [Out.ok.injEq] at h2
      rw [← h2.2]; exact rflds_less ih d _ _ _ _ _ h1
    · exact rflat_less k _ _ _ h
end Go.Proofs.Th
open Go Go.Ag
namespace Go.Proofs.Th
attribute [local simp] ec_skip ec_region ec_seq ec_cond ec_block ec_loop ec_exit ec_ret seqK_normal seqK_exit seqK_ret seqK_pan condK_true condK_false blockK_exit blockK_normal blockK_ret blockK_pan regionK_plain regionK_draw eo_nil eo_cons cutS_nil cutOf opK_is wantK_yes wantK_no stepK_ret stepK_pan endK_normal endK_ret endK_pan annotate headS wantedA evOp evOp1 evA Ag.get putT dstOK argsEnv retK resR resAll resOne constAV constCell Ctx.bss evLoad evStore AV.cells intOfAV AV.val AV.vals splice okCell okCells_nil okCells_cons finish AV.lt AV.lts AV.ltss putObj partOf restrT ltT ownOK bsOK bsOKs List.lookup_cons pr_bind pr_pure pr_guard_int pr_guard_str pr_guard_bool pr_add pr_sub pr_mul pr_eql pr_neq pr_lss pr_leq pr_gtr pr_geq pr_seql pr_sneq pr_not pr_neg pr_shl pr_shr pr_quo pr_rem pr_and pr_or pr_xor pr_conv pr_min2 pr_max2 undef callP plA plS plR plO nameP ARes.keys putObj callW callAt callKs inS outS backK reachW pickM renObjs AObj.ren AV.ren AV.rens renss renE posOf backM outK lokAt ARes.ren AV.keys AV.keyss objKeys evFieldAddr evIndexAddr evLen evFill List.range_succ Value.oneCell' evInsert mfind sameKey isKey AObj.lt Value.cells
attribute [local simp] cells_len cells_ok cells_lt trows_lt irows_lt sp1_lt sp7_lt irows_len trows_len cells_0 cells_1 cells_2 cells_3 cells_4 cells_5 cells_6 cellg_0 cellg_1 cellg_2 cellg_3 cellg_4 cellg_5 cellg_6 cells_take cells_keys cells_rens pr_lenstr bstr_size
attribute [local simp] look_mp look_mp2 look_imp look_imp2 lookV lookB intKeys cond_vint cond_vbool bits_i64 bits_u64 bits_u8 bits_i8 bits_i32 bits_u32
attribute [local simp] wrap64_in wrapu64_in wrapu8_in
attribute [local simp] fz_int fz_str fz_bool fz_float fz_nilp fz_tuple fz_nili fz_nilf fz_nilm fz_any fz_nil fz_emp fz_ptr fz_rp fz_ip fz_imp fz_agg fz_tup fz_ifc fz_fn fz_sl fzRow_row fz_so fzMap_mp fz_mp appR_row appN appX_nil appX_emp appX_so appS_some appT_some app_is bsD_some bsB_some bsA_some bs1_is bsZ0_some bsA0_some bs0_is src_sl srcR_row src_so src_str src_nil src_emp rowsOK_nil rowsOK_cons rowsOK_app
attribute [local simp] irows_frz trows_frz sp1_frz sp7_frz cells_frz irows_ok trows_ok sp1_ok sp7_ok bRows_map_frz bRows_ok bRows_lt bRows_length strRows_bstr
attribute [local simp] trows_ta trows_da irows_ta irows_da bRows_ta bRows_da
attribute [local simp] mask_F maskF merge_F mergeF d_fast evFast_is f_nil f_cons fWantK_no fWantK_yes fFp_w fFp_r fClW_t fClR_t fOpW_r fOpR_r fValW_t fValR_t fastX_some clashFree isPureFP fpOf FP.has FP.meets restr Oper.looksAt isAlloc Op.operands Call.operands List.filter_cons rank Nat.testBit reach
section
set_option maxHeartbeats 4000000
attribute [local simp] pr_conv bstr_toList
def gV (sp : List UInt8) : Th → List UInt8 → ARes × Mem := gRd sp fun x : Th => .agg (x.cells false)
theorem fin_cells {k y e i : Int} {t : List UInt8} {ids : List Int} {l : List Th} : (Th.mk k y e i t ids l).cells false = [.v (.int .i64 k), .v (.int .i64 y), .v (.int .i64 e), .v (.int .i64 i), .v (.string (bstr t)), .sl (irows ids) [], .sl (trows false l) []] := rfl
set_option maxRecDepth 20000 in
set_option maxHeartbeats 8000000 in
theorem f31_1 (sp : List UInt8) (deep : Int) (bs : List UInt8) : RO (ev 31 [.ptr 0 0, .v (.int .i64 1), .v (.int .i64 deep)] [rd sp bs]) (gV sp) (isRd sp) (rflat 1 bs) := by
  refine ev_fnO Try.func31 rfl rfl (Nat.le_of_ble_eq_true rfl) ?_
  cases bs with
  | nil =>
    have h48 := f48_nil sp
    simp [rd] at h48
    refine ⟨[rd sp []], ⟨_, rfl⟩, ?_⟩
    simp [ann, reg, Try.f31, rd, nilO, isNil, h48, f48_nil]
  | cons c bs =>
    have h48 := f48 sp c bs
    simp [rd] at h48
    by_cases h1 : c.toNat = 1
    · have : rflat 1 (c :: bs) = .ok (.mk 1 0 0 (2 - (c.toNat : Int)) [] [] []) bs := by simp [rflat, rbyte, Out.bind, h1]
      rw [this]
      simp only [RO, gV, gRd, fin_cells]
      simp [ann, reg, Try.f31, rd, nilO, isNil, h48, h1, f49_t, irows, trows, bstr_nil]
    · by_cases h2 : c.toNat = 2
      · have : rflat 1 (c :: bs) = .ok (.mk 1 0 0 (2 - (c.toNat : Int)) [] [] []) bs := by simp [rflat, rbyte, Out.bind, h2]
        rw [this]
        simp only [RO, gV, gRd, fin_cells]
        simp [ann, reg, Try.f31, rd, nilO, isNil, h48, h2, f49_t, irows, trows, bstr_nil]
      · have : rflat 1 (c :: bs) = .bad false := by simp [rflat, rbyte, Out.bind, h1, h2]
        rw [this]
        refine ⟨[rd sp bs], ⟨_, rfl⟩, ?_⟩
        have g1 : ((c.toNat : Int) == 1) = false := by simp; omega
        have g2 : ((c.toNat : Int) == 2) = false := by simp; omega
        simp [ann, reg, Try.f31, rd, nilO, isNil, h48, g1, g2, f49_f]
set_option maxRecDepth 20000 in
set_option maxHeartbeats 8000000 in
theorem f31_3 (sp : List UInt8) (deep : Int) (bs : List UInt8) : RO (ev 31 [.ptr 0 0, .v (.int .i64 3), .v (.int .i64 deep)] [rd sp bs]) (gV sp) (isRd sp) (rflat 3 bs) := by
  refine ev_fnO Try.func31 rfl rfl (Nat.le_of_ble_eq_true rfl) ?_
  cases bs with
  | nil =>
    have h48 := f48_nil sp
    simp [rd] at h48
    refine ⟨[rd sp []], ⟨_, rfl⟩, ?_⟩
    simp [ann, reg, Try.f31, rd, nilO, isNil, h48, f48_nil]
  | cons c bs =>
    have h48 := f48 sp c bs
    simp [rd] at h48
    have : rflat 3 (c :: bs) = .ok (.mk 3 0 0 (i8 c) [] [] []) bs := by simp [rflat, rbyte, Out.bind]
    rw [this]
    simp only [RO, gV, gRd, fin_cells]
    have hc := c.toNat_lt
    have e1 : IntKind.i8.wrap (c.toNat : Int) = i8 c := by
      unfold IntKind.wrap i8
      simp [IntKind.signed, IntKind.bits]
      split <;> omega
    have e2 : IntKind.i64.wrap (i8 c) = i8 c := by unfold i8; split <;> rw [wrap64_in] <;> omega
    simp [ann, reg, Try.f31, rd, nilO, isNil, h48, e1, e2, irows, trows, bstr_nil]
set_option maxRecDepth 20000 in
set_option maxHeartbeats 8000000 in
theorem f31_4 (sp : List UInt8) (deep : Int) (bs : List UInt8) : RO (ev 31 [.ptr 0 0, .v (.int .i64 4), .v (.int .i64 deep)] [rd sp bs]) (gV sp) (isRd sp) (rflat 4 bs) := by
  have h50 := f50 sp 16 (by omega) bs
  have h51 := f51 4
  have e : rflat 4 bs = (rsigned 16 bs).bind fun x r => .ok (.mk 4 0 0 x [] [] []) r := by simp [rflat, kbits]
  have ep : pbits 4 = 16 := by simp [pbits]
  have hb := bef_31_12
  simp [Try.f31, opsOf] at hb
  rw [ep] at h51
  rw [e]
  refine ev_fnO Try.func31 rfl rfl (Nat.le_of_ble_eq_true rfl) ?_
  cases hO : rsigned 16 bs with
  | ok x r =>
    have h48 := h50.ok hO
    simp [rd, gRd] at h48
    simp only [Out.bind, RO, gV, gRd, fin_cells]
    simp [ann, reg, Try.f31, rd, nilO, isNil, h48, hb, h51, irows, trows, bstr_nil]
  | bad s =>
    obtain ⟨M', ⟨bs', rfl⟩, h48⟩ := h50.bad hO
    simp [rd] at h48
    refine ⟨[rd sp bs'], ⟨bs', rfl⟩, ?_⟩
    simp [-d_fast, d_start, d_nil, d_cons, dWantK_dead, dWantK_no, dWantK_yes, dFw0_is, dFwK_rd, dFwK_wr, dOpK_ret, dOpK_pan, dValK_rd, dValK_wr, dPanK_rd, dPanK_wr, dEndK_ok, dEndK_pan, isDead, noClash, allAhead, dstsOf, ann, reg, Try.f31, rd, nilO, isNil, h48, hb, h51]
set_option maxRecDepth 20000 in
set_option maxHeartbeats 8000000 in
theorem f31_5 (sp : List UInt8) (deep : Int) (bs : List UInt8) : RO (ev 31 [.ptr 0 0, .v (.int .i64 5), .v (.int .i64 deep)] [rd sp bs]) (gV sp) (isRd sp) (rflat 5 bs) := by
  have h50 := f50 sp 32 (by omega) bs
  have h51 := f51 5
  have e : rflat 5 bs = (rsigned 32 bs).bind fun x r => .ok (.mk 5 0 0 x [] [] []) r := by simp [rflat, kbits]
  have ep : pbits 5 = 32 := by simp [pbits]
  have hb := bef_31_12
  simp [Try.f31, opsOf] at hb
  rw [ep] at h51
  rw [e]
  refine ev_fnO Try.func31 rfl rfl (Nat.le_of_ble_eq_true rfl) ?_
  cases hO : rsigned 32 bs with
  | ok x r =>
    have h48 := h50.ok hO
    simp [rd, gRd] at h48
    simp only [Out.bind, RO, gV, gRd, fin_cells]
    simp [ann, reg, Try.f31, rd, nilO, isNil, h48, hb, h51, irows, trows, bstr_nil]
  | bad s =>
    obtain ⟨M', ⟨bs', rfl⟩, h48⟩ := h50.bad hO
    simp [rd] at h48
    refine ⟨[rd sp bs'], ⟨bs', rfl⟩, ?_⟩
    simp [-d_fast, d_start, d_nil, d_cons, dWantK_dead, dWantK_no, dWantK_yes, dFw0_is, dFwK_rd, dFwK_wr, dOpK_ret, dOpK_pan, dValK_rd, dValK_wr, dPanK_rd, dPanK_wr, dEndK_ok, dEndK_pan, isDead, noClash, allAhead, dstsOf, ann, reg, Try.f31, rd, nilO, isNil, h48, hb, h51]
set_option maxRecDepth 20000 in
set_option maxHeartbeats 8000000 in
theorem f31_6 (sp : List UInt8) (deep : Int) (bs : List UInt8) : RO (ev 31 [.ptr 0 0, .v (.int .i64 6), .v (.int .i64 deep)] [rd sp bs]) (gV sp) (isRd sp) (rflat 6 bs) := by
  have h50 := f50 sp 64 (by omega) bs
  have h51 := f51 6
  have e : rflat 6 bs = (rsigned 64 bs).bind fun x r => .ok (.mk 6 0 0 x [] [] []) r := by simp [rflat, kbits]
  have ep : pbits 6 = 64 := by simp [pbits]
  have hb := bef_31_12
  simp [Try.f31, opsOf] at hb
  rw [ep] at h51
  rw [e]
  refine ev_fnO Try.func31 rfl rfl (Nat.le_of_ble_eq_true rfl) ?_
  cases hO : rsigned 64 bs with
  | ok x r =>
    have h48 := h50.ok hO
    simp [rd, gRd] at h48
    simp only [Out.bind, RO, gV, gRd, fin_cells]
    simp [ann, reg, Try.f31, rd, nilO, isNil, h48, hb, h51, irows, trows, bstr_nil]
  | bad s =>
    obtain ⟨M', ⟨bs', rfl⟩, h48⟩ := h50.bad hO
    simp [rd] at h48
    refine ⟨[rd sp bs'], ⟨bs', rfl⟩, ?_⟩
    simp [-d_fast, d_start, d_nil, d_cons, dWantK_dead, dWantK_no, dWantK_yes, dFw0_is, dFwK_rd, dFwK_wr, dOpK_ret, dOpK_pan, dValK_rd, dValK_wr, dPanK_rd, dPanK_wr, dEndK_ok, dEndK_pan, isDead, noClash, allAhead, dstsOf, ann, reg, Try.f31, rd, nilO, isNil, h48, hb, h51]
end
section
set_option maxHeartbeats 4000000
attribute [local simp] pr_conv bstr_toList
theorem lev_app (a : List UInt8) (c : UInt8) : lev (a ++ [c]) = lev a + c.toNat * 2 ^ (8 * a.length) := by
  induction a with
  | nil => simp [lev]
  | cons x xs ih =>
    simp only [List.cons_append, lev, ih, List.length_cons]
    rw [Nat.mul_add, Nat.mul_add, Nat.pow_add]
    simp only [Nat.add_assoc]
    congr 2
    rw [Nat.mul_comm, Nat.mul_assoc, Nat.mul_comm (2 ^ (8 * xs.length))]
theorem lev_lt (a : List UInt8) : lev a < 2 ^ (8 * a.length) := by
  induction a with
  | nil => simp [lev]
  | cons x xs ih =>
    have := x.toNat_lt
    simp only [lev, List.length_cons]
    rw [Nat.mul_add, Nat.pow_add]
    omega
theorem bytesOf_bR : ∀ l : List UInt8, bytesOf (bRows l) = some l
  | [] => rfl
  | b :: l => by
    have := bytesOf_bR l
    show bytesOf ([AV.v (.int .u8 b.toNat)] :: bRows l) = _
    simp [bytesOf, this]
theorem ofInt_wrap (x : Int) : BitVec.ofInt 64 (IntKind.i64.wrap x) = BitVec.ofInt 64 x := by
  apply BitVec.eq_of_toNat_eq
  rw [BitVec.toNat_ofInt, BitVec.toNat_ofInt, IntKind.wrap_i64]
  omega
theorem bOr_lev (a c s : Nat) (h : a < 2 ^ s) (h2 : a + c * 2 ^ s < 18446744073709551616) : bOr .i64 (IntKind.i64.wrap (a : Int)) (IntKind.i64.wrap ((c : Int) * 2 ^ s)) = IntKind.i64.wrap ((a + c * 2 ^ s : Nat) : Int) := by
  unfold bOr
  show IntKind.i64.wrap (((BitVec.ofInt 64 (IntKind.i64.wrap (a : Int)) ||| BitVec.ofInt 64 (IntKind.i64.wrap ((c : Int) * 2 ^ s))).toNat : Nat) : Int) = _
  have hp : ((c : Int) * 2 ^ s) = ((c * 2 ^ s : Nat) : Int) := by simp
  rw [ofInt_wrap, ofInt_wrap, hp, BitVec.toNat_or]
  have g1 : (BitVec.ofInt 64 (a : Int)).toNat = a := by rw [BitVec.toNat_ofInt]; omega
  have g2 : (BitVec.ofInt 64 ((c * 2 ^ s : Nat) : Int)).toNat = c * 2 ^ s := by rw [BitVec.toNat_ofInt]; omega
  rw [g1, g2]
  have := Nat.shiftLeft_add_eq_or_of_lt h c
  rw [Nat.shiftLeft_eq] at this
  rw [Nat.or_comm, ← this, Nat.add_comm]
theorem sreps_length {α : Type} {f : List UInt8 → Out α} : ∀ (n : Nat) (bs : List UInt8) {l : List α} {r : List UInt8}, sreps f n bs = .ok l r → l.length = n
  | 0, bs, l, r, h => by simp only [sreps, Out.ok.injEq] at h; rw [← h.1]; rfl
  | n + 1, bs, l, r, h => by
    obtain ⟨x, r1, h1, h2⟩ := bind_ok h
    obtain ⟨l', r2, h3, h4⟩ := bind_ok h2
    simp only [Out.ok.injEq] at h4
    rw [← h4.1, List.length_cons, sreps_length n _ h3]
def m7 (sp r : List UInt8) (deep V : Int) : Mem := [rd sp r, .cells [.ptr 0 0], .cells [.v (.int .i64 deep)], .cells [.v (.int .i64 0), .v (.int .i64 0), .v (.int .i64 0), .v (.int .i64 0), .v (.string ByteArray.empty), .v (.slice none 0 0), .v (.slice none 0 0)], .cells [.v (.int .i64 7), .v (.int .i64 0), .v (.int .i64 0), .v (.int .i64 V), .v (.string ByteArray.empty), .so 5 0 0 0, .so 6 0 0 0], .row 0 1 [], .row 0 7 []]
set_option maxRecDepth 20000 in
set_option maxHeartbeats 8000000 in
theorem f31_7 (sp : List UInt8) (deep : Int) (bs : List UInt8) : RO (ev 31 [.ptr 0 0, .v (.int .i64 7), .v (.int .i64 deep)] [rd sp bs]) (gV sp) (isRd sp) (rflat 7 bs) := by
  have h52 := f52 sp 8 (by omega) bs
  have e : rflat 7 bs = (sreps rbyte 8 bs).bind fun l r => .ok (.mk 7 0 0 (dbl l) [] [] []) r := by simp [rflat]
  have hb := bef_31_17
  simp [Try.f31, opsOf] at hb
  rw [e]
  refine ev_fnO Try.func31 rfl rfl (Nat.le_of_ble_eq_true rfl) ?_
  cases hO : sreps rbyte 8 bs with
  | bad s =>
    obtain ⟨M', ⟨bs', rfl⟩, h48⟩ := h52.bad hO
    simp [rd] at h48
    refine ⟨[rd sp bs'], ⟨bs', rfl⟩, ?_⟩
    simp [ann, reg, Try.f31, rd, nilO, isNil, h48]
  | ok l r =>
    have hl8 := sreps_length _ _ hO
    have h48 := h52.ok hO
    simp [rd, gRd] at h48
    simp only [Out.bind, RO, gV, gRd, fin_cells]
    simp [ann, reg, Try.f31, rd, nilO, isNil, h48, hl8]
    generalize hres : runLoop _ _ _ _ = res
    unfold runLoop at hres
    generalize hf : evCode _ _ _ = f at hres
    have key : ∀ (xs : List UInt8) (j : Nat) (T : Env), l.drop j = xs → T.lookup 64 = some (.v (.int .i64 (j : Int))) → T.lookup 63 = some (.v (.int .i64 8)) → T.lookup 62 = some (.sl (bRows l) []) → T.lookup 7 = some (.ptr 4 0) → T.lookup 6 = some (.ptr 3 0) →
        ∃ T', lpW f ⟨T, m7 sp r deep (IntKind.i64.wrap (lev (l.take j) : Int))⟩ = some (.exit 1, ⟨T', m7 sp r deep (dbl l)⟩) ∧ T'.lookup 7 = some (.ptr 4 0) ∧ T'.lookup 6 = some (.ptr 3 0) := by
      intro xs
      induction xs with
      | nil =>
        intro j T hd t64 t63 t62 t7 t6
        have hj : l.length ≤ j := List.drop_eq_nil_iff.1 hd
        have hlt : ¬ (j : Int) < 8 := by omega
        rw [List.take_of_length_le hj]
        exact ⟨_, lpW_once (by rw [← hf]; simp [ann, reg, t64, t63, hlt]; (first | rfl | exact ⟨rfl, rfl⟩ | exact ⟨rfl, rfl, rfl⟩)) (by simp), by simp [t7], by simp [t6]⟩
      | cons c cs ih =>
        intro j T hd t64 t63 t62 t7 t6
        obtain ⟨hz, hj, hdn⟩ := drop_get hd
        have hlt : (j : Int) < 8 := by omega
        have hc := c.toNat_lt
        have hrow : (bRows l)[j]? = some [.v (.int .u8 c.toNat)] := by unfold bRows; rw [List.getElem?_map, hz]; rfl
        have hll : (l.take j).length = j := by rw [List.length_take]; omega
        have hlv := lev_lt (l.take j)
        rw [hll] at hlv
        have hp : 2 ^ (8 * j) ≤ 2 ^ 56 := Nat.pow_le_pow_right (by omega) (by omega)
        have hm : c.toNat * 2 ^ (8 * j) ≤ 255 * 2 ^ (8 * j) := Nat.mul_le_mul_right _ (by omega)
        have hor := bOr_lev (lev (l.take j)) c.toNat (8 * j) hlv (by omega)
        have hta : l.take (j + 1) = l.take j ++ [c] := by rw [List.take_add_one, hz]; rfl
        have hlev := lev_app (l.take j) c
        rw [hll] at hlev
        rw [← hlev, ← hta] at hor
        have w1 : IntKind.i64.wrap (c.toNat : Int) = (c.toNat : Int) := wrap64_in (by omega) (by omega)
        have w2 : IntKind.i64.wrap (8 * (j : Int)) = 8 * (j : Int) := wrap64_in (by omega) (by omega)
        have w3 : (8 * (j : Int)).toNat = 8 * j := by omega
        have w4 : min (8 * j) 64 = 8 * j := by omega
        have w5 : (0 : Int) ≤ 8 * (j : Int) := by omega
        have w6 : IntKind.i64.wrap ((j : Int) + 1) = ((j + 1 : Nat) : Int) := by rw [wrap64_in (by omega) (by omega)]; rfl
        obtain ⟨V, hV⟩ : ∃ V, IntKind.i64.wrap (lev (l.take j) : Int) = V := ⟨_, rfl⟩
        obtain ⟨V', hV'⟩ : ∃ V', IntKind.i64.wrap (lev (l.take (j + 1)) : Int) = V' := ⟨_, rfl⟩
        rw [hV, hV'] at hor
        obtain ⟨T1, q, q64, q63, q62, q7, q6⟩ : ∃ T1, f ⟨T, m7 sp r deep V⟩ = some (.normal, ⟨T1, m7 sp r deep V'⟩) ∧ T1.lookup 64 = some (.v (.int .i64 ((j + 1 : Nat) : Int))) ∧ T1.lookup 63 = some (.v (.int .i64 8)) ∧ T1.lookup 62 = some (.sl (bRows l) []) ∧ T1.lookup 7 = some (.ptr 4 0) ∧ T1.lookup 6 = some (.ptr 3 0) :=
          ⟨_, by rw [← hf]; simp [ann, reg, m7, rd, hb, t64, t63, t62, t7, hlt, hrow, w1, w2, w3, w4, w5, w6, hor]; (first | rfl | exact ⟨rfl, rfl⟩ | exact ⟨rfl, rfl, rfl⟩), by simp, by simp [t63], by simp [t62], by simp [t7], by simp [t6]⟩
        obtain ⟨T', r1, r2⟩ := ih (j + 1) T1 hdn q64 q63 q62 q7 q6
        rw [hV'] at r1
        rw [hV]
        exact ⟨T', lpW_first q r1, r2⟩
    obtain ⟨T', g1, g2, g3⟩ : ∃ T', res = some (.exit 1, ⟨T', m7 sp r deep (dbl l)⟩) ∧ T'.lookup 7 = some (.ptr 4 0) ∧ T'.lookup 6 = some (.ptr 3 0) := by
      rw [← hres]
      exact key l 0 _ rfl (by simp) (by simp) (by simp) (by simp) (by simp)
    subst g1
    clear hf key hres
    simp [ann, reg, m7, rd, g2, g3, irows, trows, bstr_nil]
set_option maxRecDepth 20000 in
set_option maxHeartbeats 8000000 in
theorem f31_8 (sp : List UInt8) (deep : Int) (bs : List UInt8) (hbs : bs.length ≤ 1000000000) : RO (ev 31 [.ptr 0 0, .v (.int .i64 8), .v (.int .i64 deep)] [rd sp bs]) (gV sp) (isRd sp) (rflat 8 bs) := by
  have h53 := f53 sp 0 1048576 1 (by omega) (by omega) (.inl rfl) bs
  have e : rflat 8 bs = (numL 0 1048576 1 bs 0 0).bind fun n r => if r.length < n then .bad true else .ok (.mk 8 0 0 0 (r.take n) [] []) (r.drop n) := by simp [rflat]
  have hb := bef_31_24
  simp [Try.f31, opsOf] at hb
  rw [e]
  refine ev_fnO Try.func31 rfl rfl (Nat.le_of_ble_eq_true rfl) ?_
  cases hO : numL 0 1048576 1 bs 0 0 with
  | bad s =>
    obtain ⟨M', ⟨bs', rfl⟩, h48⟩ := h53.bad hO
    simp [rd] at h48
    refine ⟨[rd sp bs'], ⟨bs', rfl⟩, ?_⟩
    simp [ann, reg, Try.f31, rd, nilO, isNil, h48]
  | ok n r =>
    have h48 := h53.ok hO
    simp [rd, gRd] at h48
    have hlt := (numL_le _ _ _ _ _ _ hO)
    have w1 : IntKind.u64.wrap (r.length : Int) = (r.length : Int) := by rw [IntKind.wrap_u64]; omega
    simp only [Out.bind]
    by_cases hn : r.length < n
    · rw [if_pos hn]
      refine ⟨[rd sp r], ⟨r, rfl⟩, ?_⟩
      simp [ann, reg, Try.f31, rd, nilO, isNil, h48, w1, hn, pv]
    · rw [if_neg hn]
      have hn' : n ≤ r.length := by omega
      have hn2 : n ≤ r.length + sp.length := by omega
      have hta : List.take n (bRows r ++ bRows sp) = bRows (r.take n) := by rw [List.take_append_of_le_length (by rw [bRows_length]; exact hn'), bRows_take]
      simp only [RO, gV, gRd, fin_cells]
      simp [ann, reg, Try.f31, rd, nilO, isNil, h48, w1, hn, hb, evSlice, bndOf, irows, trows, bRows_take, bRows_drop, hn', hn2, hta, rowsOf, bytesOf_bR, bstr]
end
section
set_option maxHeartbeats 4000000
attribute [local simp] pr_conv bstr_toList
def V31 (d : Nat) : Prop := ∀ (sp : List UInt8) (k : Int) (bs : List UInt8), known k = true → (holds k = true → 0 < d) → bs.length ≤ 1000000000 →
  RO (ev 31 [.ptr 0 0, .v (.int .i64 k), .v (.int .i64 (d : Int))] [rd sp bs]) (gV sp) (isRd sp) (rval d k bs)
def lm (sp : List UInt8) (e deep : Int) (bs : List UInt8) : Mem := [.cells [.ptr 3 0], .cells [.v (.int .i64 9), .v (.int .i64 0), .v (.int .i64 e), .v (.int .i64 0), .v (.string ByteArray.empty), .so 4 0 0 0, .so 5 0 0 0], .cells [.v (.int .i64 deep)], rd sp bs, .row 0 1 [], .row 0 7 []]
def isLm (sp : List UInt8) (e deep : Int) (M : Mem) : Prop := ∃ bs, M = lm sp e deep bs
set_option maxRecDepth 20000 in
set_option maxHeartbeats 8000000 in
theorem f56 (sp : List UInt8) (d : Nat) (hd : d ≤ 32) (IH : V31 d) (e : Int) (hk : known e = true) (hh : holds e = true → 0 < d) (bs : List UInt8) (hbs : bs.length ≤ 1000000000) :
    RO (ev 56 [.ptr 0 0, .ptr 1 0, .ptr 2 0] (lm sp e ((d : Int) + 1) bs)) (fun x r => (.ret (.agg (x.cells false)), lm sp e ((d : Int) + 1) r)) (isLm sp e ((d : Int) + 1)) (rval d e bs) := by
  have h31 := IH sp e bs hk hh hbs
  have w1 : IntKind.i64.wrap ((d : Int) + 1 - 1) = (d : Int) := by rw [wrap64_in (by omega) (by omega)]; omega
  have w2 : (d : Int) + 1 - 1 = (d : Int) := by omega
  have w3 : IntKind.i64.wrap (d : Int) = (d : Int) := wrap64_in (by omega) (by omega)
  refine ev_fnO Try.func56 rfl rfl (Nat.le_of_ble_eq_true rfl) ?_
  cases hO : rval d e bs with
  | ok x r =>
    have h := h31.ok hO
    simp [rd, gV, gRd] at h
    simp only [RO]
    simp [ann, reg, Try.f56, lm, rd, w1, w2, w3, h]
  | bad s =>
    obtain ⟨M', ⟨bs', rfl⟩, h⟩ := h31.bad hO
    simp [rd] at h
    refine ⟨_, ⟨bs', rfl⟩, ?_⟩
    simp [ann, reg, Try.f56, lm, rd, w1, w2, w3, h]
set_option maxRecDepth 20000 in
set_option maxHeartbeats 8000000 in
theorem f55a (sp : List UInt8) (d : Nat) (hd : d ≤ 32) (IH : V31 d) (e : Int) (N : Nat) (hN : N ≤ 1000000) (hk : known e = true) (hh : 0 < N → holds e = true → 0 < d) (bs : List UInt8) (hbs : bs.length ≤ 1000000000) :
    RO (ev 55 [.v (.int .u64 N), .fn (.func 56) [] [.ptr 0 0, .ptr 1 0, .ptr 2 0]] (lm sp e ((d : Int) + 1) bs)) (fun l r => (.ret (.sl (trows false l) []), lm sp e ((d : Int) + 1) r)) (isLm sp e ((d : Int) + 1)) (sreps (rval d e) N bs) := by
  refine ev_fnO Try.func55 rfl rfl (Nat.le_of_ble_eq_true rfl) ?_
  simp [ann, reg, Try.f55, nilT, isNil, lm]
  generalize hres : runLoop _ _ _ _ = res
  unfold runLoop at hres
  generalize hf : evCode _ _ _ = f at hres
  have key : ∀ (n : Nat) (j ver : Nat) (acc : List Th) (bs : List UInt8) (T : Env) (ex : Mem), j + n = N → acc.length = j → bs.length ≤ 1000000000 → T.lookup 1 = some (.fn (.func 56) [] [.ptr 0 0, .ptr 1 0, .ptr 2 0]) → T.lookup 7 = some (.v (.int .u64 N)) → T.lookup 8 = some (.v (.int .u64 j)) → T.lookup 5 = some (.so 6 ver 0 j) →
      match sreps (rval d e) n bs with
      | .ok l r => ∃ T' ver', lpW f ⟨T, lm sp e ((d : Int) + 1) bs ++ .row ver 7 (trows false acc) :: ex⟩ = some (.exit 0, ⟨T', lm sp e ((d : Int) + 1) r ++ [.row ver' 7 (trows false (acc ++ l))]⟩) ∧ T'.lookup 5 = some (.so 6 ver' 0 (acc ++ l).length)
      | .bad s => ∃ T' r ex', lpW f ⟨T, lm sp e ((d : Int) + 1) bs ++ .row ver 7 (trows false acc) :: ex⟩ = some (.pan (pv s), ⟨T', lm sp e ((d : Int) + 1) r ++ ex'⟩) := by
    intro n
    induction n with
    | zero =>
      intro j ver acc bs T ex hj hl hbs t1 t7 t8 t5
      have hlt : ¬ (j : Int) < (N : Int) := by omega
      exact ⟨_, ver, lpW_once (by rw [← hf]; simp [ann, reg, lm, rd, t1, t7, t8, t5, hlt]; (first | rfl | exact ⟨rfl, rfl⟩ | exact ⟨rfl, rfl, rfl⟩)) (by simp), by simp [t5, hl]⟩
    | succ n ih =>
      intro j ver acc bs T ex hj hl hbs t1 t7 t8 t5
      have hlt : (j : Int) < (N : Int) := by omega
      have h56 := f56 sp d hd IH e hk (hh (by omega)) bs hbs
      simp only [sreps]
      cases hO : rval d e bs with
      | bad s =>
        obtain ⟨M', ⟨bs', rfl⟩, h⟩ := h56.bad hO
        simp [lm, rd] at h
        exact ⟨_, bs', _, lpW_once (by rw [← hf]; simp [ann, reg, lm, rd, t1, t7, t8, t5, hlt, h]; (first | rfl | exact ⟨rfl, rfl⟩ | exact ⟨rfl, rfl, rfl⟩)) (by simp)⟩
      | ok x r =>
        have h := h56.ok hO
        simp [lm, rd] at h
        have hless := rval_less d e _ _ _ hO
        have e1 := u64_up (j := j) (by omega)
        have e2 : (acc.length + 1) * 96 ≤ 140737488355328 := by omega
        subst hl
        obtain ⟨T1, M1, q, q1, q7, q8, q5⟩ : ∃ T1 M1, f ⟨T, lm sp e ((d : Int) + 1) bs ++ .row ver 7 (trows false acc) :: ex⟩ = some (.normal, ⟨T1, lm sp e ((d : Int) + 1) r ++ .row (ver + 1) 7 (trows false (acc ++ [x])) :: M1⟩) ∧ T1.lookup 1 = some (.fn (.func 56) [] [.ptr 0 0, .ptr 1 0, .ptr 2 0]) ∧ T1.lookup 7 = some (.v (.int .u64 N)) ∧ T1.lookup 8 = some (.v (.int .u64 ((acc.length + 1 : Nat) : Int))) ∧ T1.lookup 5 = some (.so 6 (ver + 1) 0 (acc.length + 1)) :=
          ⟨_, _, by rw [← hf]; simp [ann, reg, lm, rd, t1, t7, t8, t5, hlt, h, trows_append, trows_one, e1, e2]; (first | rfl | exact ⟨rfl, rfl⟩ | exact ⟨rfl, rfl, rfl⟩), by simp [t1], by simp [t7], by simp, by simp⟩
        have ihh := ih (acc.length + 1) (ver + 1) (acc ++ [x]) r T1 M1 (by omega) (by simp) (by omega) q1 q7 q8 q5
        simp only [Out.bind]
        cases hO : sreps (rval d e) n r with
        | ok l r =>
          rw [hO] at ihh
          obtain ⟨T', ver', r1, r2⟩ := ihh
          rw [show acc ++ [x] ++ l = acc ++ x :: l by simp] at r1 r2
          exact ⟨T', ver', lpW_first q r1, r2⟩
        | bad s =>
          rw [hO] at ihh
          obtain ⟨T', r, ex', r1⟩ := ihh
          exact ⟨T', r, ex', lpW_first q r1⟩
  have key0 : match sreps (rval d e) N bs with
      | .ok l r => ∃ T' ver', res = some (.exit 0, ⟨T', lm sp e ((d : Int) + 1) r ++ [.row ver' 7 (trows false l)]⟩) ∧ T'.lookup 5 = some (.so 6 ver' 0 l.length)
      | .bad s => ∃ T' r ex', res = some (.pan (pv s), ⟨T', lm sp e ((d : Int) + 1) r ++ ex'⟩) := by
    rw [← hres]
    exact key N 0 0 [] bs _ [] (by omega) rfl hbs (by simp) (by simp) (by simp) (by simp)
  clear hf key hres
  cases hO : sreps (rval d e) N bs with
  | ok l r =>
    rw [hO] at key0
    obtain ⟨T', ver', r1, r2⟩ := key0
    subst r1
    simp [ann, reg, RO, lm, rd, r2]
  | bad s =>
    rw [hO] at key0
    obtain ⟨T', r, ex', r1⟩ := key0
    subst r1
    refine ⟨_, ⟨r, rfl⟩, ?_⟩
    simp [ann, reg, lm, rd]
end
section
set_option maxHeartbeats 4000000
attribute [local simp] pr_conv bstr_toList
theorem bAnd_15 {c : Nat} (h : c < 256) : bAnd .i64 (c : Int) 15 = ((c % 16 : Nat) : Int) := by
  unfold bAnd
  show IntKind.i64.wrap (((BitVec.ofInt 64 (c : Int) &&& 15#64).toNat : Nat) : Int) = _
  have g : (BitVec.ofInt 64 (c : Int) &&& 15#64).toNat = (BitVec.ofInt 64 (c : Int)).toNat % 16 := by
    rw [BitVec.toNat_and]
    exact Nat.and_two_pow_sub_one_eq_mod _ 4
  rw [g, BitVec.toNat_ofInt, wrap64_in (by omega) (by omega)]
  omega
theorem rkind_known {k d : Int} (h : rkind k d = true) : known k = true := by unfold rkind at h; rw [Bool.and_eq_true] at h; exact h.1
theorem rkind_holds {k d : Int} (h : rkind k d = true) (h2 : holds k = true) : 0 < d := by
  unfold rkind at h
  rw [Bool.and_eq_true, h2] at h
  simpa using h.2
set_option maxRecDepth 20000 in
set_option maxHeartbeats 8000000 in
theorem f31_9 (sp : List UInt8) (d : Nat) (hd : d ≤ 32) (IH : V31 d) (bs : List UInt8) (hbs : bs.length ≤ 1000000000) :
    RO (ev 31 [.ptr 0 0, .v (.int .i64 9), .v (.int .i64 ((d : Int) + 1))] [rd sp bs]) (gV sp) (isRd sp) (rlistF (rval d) d bs) := by
  refine ev_fnO Try.func31 rfl rfl (Nat.le_of_ble_eq_true rfl) ?_
  cases bs with
  | nil =>
    have h48 := f48_nil sp
    simp [rd] at h48
    refine ⟨[rd sp []], ⟨_, rfl⟩, ?_⟩
    simp [ann, reg, Try.f31, rd, nilO, isNil, h48, f48_nil]
  | cons c bs =>
    have h48 := f48 sp c bs
    simp [rd] at h48
    have hc := c.toNat_lt
    have hbs' : bs.length ≤ 1000000000 := by simp at hbs; omega
    unfold rlistF
    simp only [rbyte, Out.bind]
    obtain ⟨n, hn⟩ : ∃ n, c.toNat / 16 = n := ⟨_, rfl⟩
    obtain ⟨e, he⟩ : ∃ e, c.toNat % 16 = e := ⟨_, rfl⟩
    have w0 : IntKind.i64.wrap (c.toNat : Int) = (c.toNat : Int) := wrap64_in (by omega) (by omega)
    have w1 : (c.toNat : Int).fdiv 16 = (n : Int) := by rw [← hn]; exact fdiv_nat c.toNat 16
    have w2 : bAnd .i64 (c.toNat : Int) 15 = (e : Int) := by rw [← he]; exact bAnd_15 hc
    have w3 : IntKind.u64.wrap (n : Int) = (n : Int) := by rw [IntKind.wrap_u64]; omega
    have w4 : IntKind.i64.wrap ((d : Int) + 1 - 1) = (d : Int) := by rw [wrap64_in (by omega) (by omega)]; omega
    have w5 : (d : Int) + 1 - 1 = (d : Int) := by omega
    have w6 : IntKind.i64.wrap (d : Int) = (d : Int) := wrap64_in (by omega) (by omega)
    unfold rwithin
    rw [hn, he]
    by_cases hn0 : n = 0
    · subst hn0
      rw [if_pos rfl]
      cases hk : rkind (e : Int) 1 with
      | false =>
        have h54 := f54_f (sp := sp) (bs := bs) hk
        simp [rd] at h54
        rw [if_pos rfl]
        refine ⟨[rd sp bs], ⟨_, rfl⟩, ?_⟩
        simp [ann, reg, Try.f31, rd, nilO, isNil, h48, w0, w1, w2, w3, w4, w5, w6, h54]
      | true =>
        have h54 := f54_t (sp := sp) (bs := bs) hk
        simp [rd] at h54
        have hkn : known (e : Int) = true := rkind_known hk
        have h55 := f55a sp d hd IH (e : Int) 0 (by omega) hkn (by omega) bs hbs'
        simp only [sreps, RO] at h55
        simp [lm, rd, trows] at h55
        rw [if_neg (by simp), if_neg (by omega)]
        simp only [Out.bind, sreps, RO, gV, gRd, fin_cells]
        simp [ann, reg, Try.f31, rd, nilO, isNil, h48, w0, w1, w2, w3, w4, w5, w6, h54, h55, irows, trows, ← bstr_nil]
    · rw [if_neg hn0]
      have g0 : ((n : Int) == 0) = false := by simp; omega
      cases hk : rkind (e : Int) (d : Int) with
      | false =>
        have h54 := f54_f (sp := sp) (bs := bs) hk
        simp [rd] at h54
        rw [if_pos rfl]
        refine ⟨[rd sp bs], ⟨_, rfl⟩, ?_⟩
        simp [ann, reg, Try.f31, rd, nilO, isNil, h48, w0, w1, w2, w3, w4, w5, w6, h54, g0]
      | true =>
        have h54 := f54_t (sp := sp) (bs := bs) hk
        simp [rd] at h54
        have hkn : known (e : Int) = true := rkind_known hk
        have hkh : holds (e : Int) = true → 0 < d := fun h => by have := rkind_holds hk h; omega
        rw [if_neg (by simp)]
        by_cases h15 : n = 15
        · rw [if_pos h15]
          subst h15
          have h53 := f53 sp 15 65536 1 (by omega) (by omega) (.inl rfl) bs
          cases hO : numL 15 65536 1 bs 0 0 with
          | bad s =>
            obtain ⟨M', ⟨bs', rfl⟩, h⟩ := h53.bad hO
            simp [rd] at h
            refine ⟨[rd sp bs'], ⟨bs', rfl⟩, ?_⟩
            simp [ann, reg, Try.f31, rd, nilO, isNil, h48, w0, w1, w2, w3, w4, w5, w6, h54, g0, h]
          | ok m r =>
            have h := h53.ok hO
            simp [rd, gRd] at h
            have hm := numL_le _ _ _ _ _ _ hO
            have h55 := f55a sp d hd IH (e : Int) m (by omega) hkn (fun _ => hkh) r (by omega)
            simp only [Out.bind]
            cases hO2 : sreps (rval d e) m r with
            | bad s =>
              obtain ⟨M', ⟨bs', rfl⟩, h2⟩ := h55.bad hO2
              simp [lm, rd] at h2
              refine ⟨[rd sp bs'], ⟨bs', rfl⟩, ?_⟩
              simp [ann, reg, Try.f31, rd, nilO, isNil, h48, w0, w1, w2, w3, w4, w5, w6, h54, g0, h, h2]
            | ok l r2 =>
              have h2 := h55.ok hO2
              simp [lm, rd] at h2
              simp only [RO, gV, gRd, fin_cells]
              simp [ann, reg, Try.f31, rd, nilO, isNil, h48, w0, w1, w2, w3, w4, w5, w6, h54, g0, h, h2, irows, ← bstr_nil]
        · rw [if_neg h15]
          have g15 : ((n : Int) == 15) = false := by simp; omega
          have h55 := f55a sp d hd IH (e : Int) n (by omega) hkn (fun _ => hkh) bs hbs'
          simp only [Out.bind]
          cases hO2 : sreps (rval d e) n bs with
          | bad s =>
            obtain ⟨M', ⟨bs', rfl⟩, h2⟩ := h55.bad hO2
            simp [lm, rd] at h2
            refine ⟨[rd sp bs'], ⟨bs', rfl⟩, ?_⟩
            simp [ann, reg, Try.f31, rd, nilO, isNil, h48, w0, w1, w2, w3, w4, w5, w6, h54, g0, g15, h2]
          | ok l r2 =>
            have h2 := h55.ok hO2
            simp [lm, rd] at h2
            simp only [RO, gV, gRd, fin_cells]
            simp [ann, reg, Try.f31, rd, nilO, isNil, h48, w0, w1, w2, w3, w4, w5, w6, h54, g0, g15, h2, irows, ← bstr_nil]
end
section
set_option maxHeartbeats 4000000
attribute [local simp] pr_conv bstr_toList
def mm (sp : List UInt8) (k e deep i : Int) (bs : List UInt8) : Mem := [.cells [.v (.int .i64 i)], .cells [.ptr 4 0], .cells [.v (.int .i64 11), .v (.int .i64 k), .v (.int .i64 e), .v (.int .i64 0), .v (.string ByteArray.empty), .so 5 0 0 0, .so 6 0 0 0], .cells [.v (.int .i64 deep)], rd sp bs, .row 0 1 [], .row 0 7 []]
def isMm (sp : List UInt8) (k e deep : Int) (M : Mem) : Prop := ∃ i bs, M = mm sp k e deep i bs
def kk (k e : Int) (i : Nat) : Int := if i % 2 = 0 then k else e
theorem idx91_0 (e k : Int) : pureRun Try.prog (Instr.index 91 (.agg #[.int .i64 e, .int .i64 k]) (.int .i64 0)) = some (.int .i64 e) := _root_.id (by kernel_rfl)
theorem idx91_1 (e k : Int) : pureRun Try.prog (Instr.index 91 (.agg #[.int .i64 e, .int .i64 k]) (.int .i64 1)) = some (.int .i64 k) := _root_.id (by kernel_rfl)
theorem tmod_2 (i : Nat) : Int.tmod ((i : Int) + 1) 2 = (((i + 1) % 2 : Nat) : Int) := tmod_nat (i + 1) 2
set_option maxRecDepth 20000 in
set_option maxHeartbeats 8000000 in
theorem f57 (sp : List UInt8) (d : Nat) (hd : d ≤ 32) (IH : V31 d) (k e : Int) (i : Nat) (hi : i < 1000000) (hk : known (kk k e i) = true) (hh : holds (kk k e i) = true → 0 < d) (bs : List UInt8) (hbs : bs.length ≤ 1000000000) :
    RO (ev 57 [.ptr 0 0, .ptr 1 0, .ptr 2 0, .ptr 3 0] (mm sp k e ((d : Int) + 1) i bs)) (fun x r => (.ret (.agg (x.cells false)), mm sp k e ((d : Int) + 1) ((i + 1 : Nat) : Int) r)) (isMm sp k e ((d : Int) + 1)) (rval d (kk k e i) bs) := by
  have h31 := IH sp _ bs hk hh hbs
  have w1 : IntKind.i64.wrap ((d : Int) + 1 - 1) = (d : Int) := by rw [wrap64_in (by omega) (by omega)]; omega
  have w2 : (d : Int) + 1 - 1 = (d : Int) := by omega
  have w3 : IntKind.i64.wrap (d : Int) = (d : Int) := wrap64_in (by omega) (by omega)
  have w4 : IntKind.i64.wrap ((i : Int) + 1) = (i : Int) + 1 := wrap64_in (by omega) (by omega)
  have hb := bef_57_2
  simp [Try.f57, opsOf] at hb
  have hcase : i % 2 = 0 ∨ i % 2 = 1 := by omega
  refine ev_fnO Try.func57 rfl rfl (Nat.le_of_ble_eq_true rfl) ?_
  cases hO : rval d (kk k e i) bs with
  | ok x r =>
    have h := h31.ok hO
    simp [rd, gV, gRd] at h
    simp only [RO]
    rcases hcase with h2 | h2
    · have hkk : kk k e i = k := by simp [kk, h2]
      have w5 : Int.tmod ((i : Int) + 1) 2 = 1 := by rw [tmod_2]; omega
      rw [hkk] at h
      simp [ann, reg, Try.f57, mm, rd, w1, w2, w3, w4, w5, hb, h, idx91_0, idx91_1]
    · have hkk : kk k e i = e := by simp [kk, h2]
      have w5 : Int.tmod ((i : Int) + 1) 2 = 0 := by rw [tmod_2]; omega
      rw [hkk] at h
      simp [ann, reg, Try.f57, mm, rd, w1, w2, w3, w4, w5, hb, h, idx91_0, idx91_1]
  | bad s =>
    obtain ⟨M', ⟨bs', rfl⟩, h⟩ := h31.bad hO
    simp [rd] at h
    refine ⟨_, ⟨((i + 1 : Nat) : Int), bs', rfl⟩, ?_⟩
    rcases hcase with h2 | h2
    · have hkk : kk k e i = k := by simp [kk, h2]
      have w5 : Int.tmod ((i : Int) + 1) 2 = 1 := by rw [tmod_2]; omega
      rw [hkk] at h
      simp [-d_fast, d_start, d_nil, d_cons, dWantK_dead, dWantK_no, dWantK_yes, dFw0_is, dFwK_rd, dFwK_wr, dOpK_ret, dOpK_pan, dValK_rd, dValK_wr, dPanK_rd, dPanK_wr, dEndK_ok, dEndK_pan, isDead, noClash, allAhead, dstsOf, ann, reg, Try.f57, mm, rd, w1, w2, w3, w4, w5, hb, h, idx91_0, idx91_1]
    · have hkk : kk k e i = e := by simp [kk, h2]
      have w5 : Int.tmod ((i : Int) + 1) 2 = 0 := by rw [tmod_2]; omega
      rw [hkk] at h
      simp [-d_fast, d_start, d_nil, d_cons, dWantK_dead, dWantK_no, dWantK_yes, dFw0_is, dFwK_rd, dFwK_wr, dOpK_ret, dOpK_pan, dValK_rd, dValK_wr, dPanK_rd, dPanK_wr, dEndK_ok, dEndK_pan, isDead, noClash, allAhead, dstsOf, ann, reg, Try.f57, mm, rd, w1, w2, w3, w4, w5, hb, h, idx91_0, idx91_1]
end
section
set_option maxHeartbeats 4000000
attribute [local simp] pr_conv bstr_toList
theorem kk_2 (k e : Int) (i : Nat) : kk k e (i + 1 + 1) = kk k e i := by
  unfold kk
  have : (i + 1 + 1) % 2 = i % 2 := by omega
  rw [this]
theorem kk_both {k e : Int} {p : Int → Prop} (h1 : p k) (h2 : p e) (i : Nat) : p (kk k e i) := by
  unfold kk; split <;> assumption
set_option maxRecDepth 20000 in
set_option maxHeartbeats 8000000 in
theorem f55b (sp : List UInt8) (d : Nat) (hd : d ≤ 32) (IH : V31 d) (k e : Int) (N : Nat) (hN : N ≤ 900000) (hk : known k = true) (he : known e = true) (hk2 : holds k = true → 0 < d) (he2 : holds e = true → 0 < d) (bs : List UInt8) (hbs : bs.length ≤ 1000000000) :
    RO (ev 55 [.v (.int .u64 N), .fn (.func 57) [] [.ptr 0 0, .ptr 1 0, .ptr 2 0, .ptr 3 0]] (mm sp k e ((d : Int) + 1) 0 bs)) (fun l r => (.ret (.sl (trows false l) []), mm sp k e ((d : Int) + 1) N r)) (isMm sp k e ((d : Int) + 1)) (ralt (rval d k) (rval d e) N bs) := by
  refine ev_fnO Try.func55 rfl rfl (Nat.le_of_ble_eq_true rfl) ?_
  simp [ann, reg, Try.f55, nilT, isNil, mm]
  generalize hres : runLoop _ _ _ _ = res
  unfold runLoop at hres
  generalize hf : evCode _ _ _ = f at hres
  have key : ∀ (n : Nat) (j ver : Nat) (acc : List Th) (bs : List UInt8) (T : Env) (ex : Mem), j + n = N → acc.length = j → bs.length ≤ 1000000000 → T.lookup 1 = some (.fn (.func 57) [] [.ptr 0 0, .ptr 1 0, .ptr 2 0, .ptr 3 0]) → T.lookup 7 = some (.v (.int .u64 N)) → T.lookup 8 = some (.v (.int .u64 j)) → T.lookup 5 = some (.so 7 ver 0 j) →
      match ralt (rval d (kk k e j)) (rval d (kk k e (j + 1))) n bs with
      | .ok l r => ∃ T' ver', lpW f ⟨T, mm sp k e ((d : Int) + 1) j bs ++ .row ver 7 (trows false acc) :: ex⟩ = some (.exit 0, ⟨T', mm sp k e ((d : Int) + 1) N r ++ [.row ver' 7 (trows false (acc ++ l))]⟩) ∧ T'.lookup 5 = some (.so 7 ver' 0 (acc ++ l).length)
      | .bad s => ∃ T' i r ex', lpW f ⟨T, mm sp k e ((d : Int) + 1) j bs ++ .row ver 7 (trows false acc) :: ex⟩ = some (.pan (pv s), ⟨T', mm sp k e ((d : Int) + 1) i r ++ ex'⟩) := by
    intro n
    induction n with
    | zero =>
      intro j ver acc bs T ex hj hl hbs t1 t7 t8 t5
      have hlt : ¬ (j : Int) < (N : Int) := by omega
      have hjN : j = N := by omega
      subst hjN
      exact ⟨_, ver, lpW_once (by rw [← hf]; simp [ann, reg, mm, rd, t1, t7, t8, t5, hlt]; (first | rfl | exact ⟨rfl, rfl⟩ | exact ⟨rfl, rfl, rfl⟩)) (by simp), by simp [t5, hl]⟩
    | succ n ih =>
      intro j ver acc bs T ex hj hl hbs t1 t7 t8 t5
      have hlt : (j : Int) < (N : Int) := by omega
      have h57 := f57 sp d hd IH k e j (by omega) (kk_both (p := fun x => known x = true) hk he j) (kk_both (p := fun x => holds x = true → 0 < d) hk2 he2 j) bs hbs
      simp only [ralt]
      cases hO : rval d (kk k e j) bs with
      | bad s =>
        obtain ⟨M', ⟨i', bs', rfl⟩, h⟩ := h57.bad hO
        simp [mm, rd] at h
        exact ⟨_, i', bs', _, lpW_once (by rw [← hf]; simp [ann, reg, mm, rd, t1, t7, t8, t5, hlt, h]; (first | rfl | exact ⟨rfl, rfl⟩ | exact ⟨rfl, rfl, rfl⟩)) (by simp)⟩
      | ok x r =>
        have h := h57.ok hO
        simp [mm, rd] at h
        have hless := rval_less d _ _ _ _ hO
        have e1 := u64_up (j := j) (by omega)
        have e2 : (acc.length + 1) * 96 ≤ 140737488355328 := by omega
        subst hl
        obtain ⟨T1, M1, q, q1, q7, q8, q5⟩ : ∃ T1 M1, f ⟨T, mm sp k e ((d : Int) + 1) acc.length bs ++ .row ver 7 (trows false acc) :: ex⟩ = some (.normal, ⟨T1, mm sp k e ((d : Int) + 1) ((acc.length + 1 : Nat) : Int) r ++ .row (ver + 1) 7 (trows false (acc ++ [x])) :: M1⟩) ∧ T1.lookup 1 = some (.fn (.func 57) [] [.ptr 0 0, .ptr 1 0, .ptr 2 0, .ptr 3 0]) ∧ T1.lookup 7 = some (.v (.int .u64 N)) ∧ T1.lookup 8 = some (.v (.int .u64 ((acc.length + 1 : Nat) : Int))) ∧ T1.lookup 5 = some (.so 7 (ver + 1) 0 (acc.length + 1)) :=
          ⟨_, _, by rw [← hf]; simp [ann, reg, mm, rd, t1, t7, t8, t5, hlt, h, trows_append, trows_one, e1, e2]; (first | rfl | exact ⟨rfl, rfl⟩ | exact ⟨rfl, rfl, rfl⟩), by simp [t1], by simp [t7], by simp, by simp⟩
        have ihh := ih (acc.length + 1) (ver + 1) (acc ++ [x]) r T1 M1 (by omega) (by simp) (by omega) q1 q7 q8 q5
        rw [kk_2] at ihh
        simp only [Out.bind]
        cases hO : ralt (rval d (kk k e (acc.length + 1))) (rval d (kk k e acc.length)) n r with
        | ok l r =>
          rw [hO] at ihh
          obtain ⟨T', ver', r1, r2⟩ := ihh
          rw [show acc ++ [x] ++ l = acc ++ x :: l by simp] at r1 r2
          exact ⟨T', ver', lpW_first q r1, r2⟩
        | bad s =>
          rw [hO] at ihh
          obtain ⟨T', i, r, ex', r1⟩ := ihh
          exact ⟨T', i, r, ex', lpW_first q r1⟩
  have key0 : match ralt (rval d k) (rval d e) N bs with
      | .ok l r => ∃ T' ver', res = some (.exit 0, ⟨T', mm sp k e ((d : Int) + 1) N r ++ [.row ver' 7 (trows false l)]⟩) ∧ T'.lookup 5 = some (.so 7 ver' 0 l.length)
      | .bad s => ∃ T' i r ex', res = some (.pan (pv s), ⟨T', mm sp k e ((d : Int) + 1) i r ++ ex'⟩) := by
    rw [← hres]
    exact key N 0 0 [] bs _ [] (by omega) rfl hbs (by simp) (by simp) (by simp) (by simp)
  clear hf key hres
  cases hO : ralt (rval d k) (rval d e) N bs with
  | ok l r =>
    rw [hO] at key0
    obtain ⟨T', ver', r1, r2⟩ := key0
    subst r1
    simp [ann, reg, RO, mm, rd, r2]
  | bad s =>
    rw [hO] at key0
    obtain ⟨T', i, r, ex', r1⟩ := key0
    subst r1
    refine ⟨_, ⟨i, r, rfl⟩, ?_⟩
    simp [ann, reg, mm, rd]
set_option maxRecDepth 20000 in
set_option maxHeartbeats 8000000 in
theorem f31_11 (sp : List UInt8) (d : Nat) (hd : d ≤ 32) (IH : V31 d) (bs : List UInt8) (hbs : bs.length ≤ 1000000000) :
    RO (ev 31 [.ptr 0 0, .v (.int .i64 11), .v (.int .i64 ((d : Int) + 1))] [rd sp bs]) (gV sp) (isRd sp) (rmapF (rval d) d bs) := by
  have h53 := f53 sp 0 65536 1 (by omega) (by omega) (.inl rfl) bs
  have hb := bef_31_39
  simp [Try.f31, opsOf] at hb
  have w4 : IntKind.i64.wrap ((d : Int) + 1 - 1) = (d : Int) := by rw [wrap64_in (by omega) (by omega)]; omega
  have w5 : (d : Int) + 1 - 1 = (d : Int) := by omega
  have w6 : IntKind.i64.wrap (d : Int) = (d : Int) := wrap64_in (by omega) (by omega)
  refine ev_fnO Try.func31 rfl rfl (Nat.le_of_ble_eq_true rfl) ?_
  unfold rmapF
  cases hO : numL 0 65536 1 bs 0 0 with
  | bad s =>
    obtain ⟨M', ⟨bs', rfl⟩, h53'⟩ := h53.bad hO
    simp [rd] at h53'
    refine ⟨[rd sp bs'], ⟨bs', rfl⟩, ?_⟩
    simp [ann, reg, Try.f31, rd, nilO, isNil, h53', w4]
  | ok n r =>
    have h53' := h53.ok hO
    simp [rd, gRd] at h53'
    have hm := numL_le _ _ _ _ _ _ hO
    simp only [Out.bind]
    by_cases hn0 : n = 0
    · rw [if_pos hn0]
      subst hn0
      simp only [RO, gV, gRd, fin_cells]
      simp [ann, reg, Try.f31, rd, nilO, isNil, h53', irows, trows, ← bstr_nil]
    · rw [if_neg hn0]
      have g0 : 0 < n := by omega
      cases r with
      | nil =>
        have h48 := f48_nil sp
        simp [rd] at h48
        refine ⟨[rd sp []], ⟨_, rfl⟩, ?_⟩
        simp [ann, reg, Try.f31, rd, nilO, isNil, h53', g0, h48]
      | cons c r =>
        have h48 := f48 sp c r
        simp [rd] at h48
        have hc := c.toNat_lt
        have hrl : r.length ≤ 1000000000 := by have := hm.2.2; simp at this; omega
        simp only [rbyte, Out.bind]
        obtain ⟨k, hk⟩ : ∃ k, c.toNat / 16 = k := ⟨_, rfl⟩
        obtain ⟨e, he⟩ : ∃ e, c.toNat % 16 = e := ⟨_, rfl⟩
        have w0 : IntKind.i64.wrap (c.toNat : Int) = (c.toNat : Int) := wrap64_in (by omega) (by omega)
        have w1 : (c.toNat : Int).fdiv 16 = (k : Int) := by rw [← hk]; exact fdiv_nat c.toNat 16
        have w2 : bAnd .i64 (c.toNat : Int) 15 = (e : Int) := by rw [← he]; exact bAnd_15 hc
        have w3 : IntKind.u64.wrap (2 * (n : Int)) = ((2 * n : Nat) : Int) := by rw [IntKind.wrap_u64]; omega
        rw [hk, he]
        cases hk1 : rkind (k : Int) (d : Int) with
        | false =>
          have h54 := f54_f (sp := sp) (bs := r) hk1
          simp [rd] at h54
          rw [if_pos rfl]
          refine ⟨[rd sp r], ⟨_, rfl⟩, ?_⟩
          cases he1 : rkind (e : Int) (d : Int) with
          | false =>
            have h54e := f54_f (sp := sp) (bs := r) he1
            simp [rd] at h54e
            simp [-d_fast, d_start, d_nil, d_cons, dWantK_dead, dWantK_no, dWantK_yes, dFw0_is, dFwK_rd, dFwK_wr, dOpK_ret, dOpK_pan, dValK_rd, dValK_wr, dPanK_rd, dPanK_wr, dEndK_ok, dEndK_pan, isDead, noClash, allAhead, dstsOf, ann, reg, Try.f31, rd, nilO, isNil, h53', g0, h48, hb, w0, w1, w2, w4, w5, w6, h54, h54e]
          | true =>
            have h54e := f54_t (sp := sp) (bs := r) he1
            simp [rd] at h54e
            simp [-d_fast, d_start, d_nil, d_cons, dWantK_dead, dWantK_no, dWantK_yes, dFw0_is, dFwK_rd, dFwK_wr, dOpK_ret, dOpK_pan, dValK_rd, dValK_wr, dPanK_rd, dPanK_wr, dEndK_ok, dEndK_pan, isDead, noClash, allAhead, dstsOf, ann, reg, Try.f31, rd, nilO, isNil, h53', g0, h48, hb, w0, w1, w2, w4, w5, w6, h54, h54e]
        | true =>
          have h54 := f54_t (sp := sp) (bs := r) hk1
          simp [rd] at h54
          rw [if_neg (by simp)]
          cases he1 : rkind (e : Int) (d : Int) with
          | false =>
            have h54e := f54_f (sp := sp) (bs := r) he1
            simp [rd] at h54e
            rw [if_pos rfl]
            refine ⟨[rd sp r], ⟨_, rfl⟩, ?_⟩
            simp [-d_fast, d_start, d_nil, d_cons, dWantK_dead, dWantK_no, dWantK_yes, dFw0_is, dFwK_rd, dFwK_wr, dOpK_ret, dOpK_pan, dValK_rd, dValK_wr, dPanK_rd, dPanK_wr, dEndK_ok, dEndK_pan, isDead, noClash, allAhead, dstsOf, ann, reg, Try.f31, rd, nilO, isNil, h53', g0, h48, hb, w0, w1, w2, w4, w5, w6, h54, h54e]
          | true =>
            have h54e := f54_t (sp := sp) (bs := r) he1
            simp [rd] at h54e
            rw [if_neg (by simp)]
            have h55 := f55b sp d hd IH (k : Int) (e : Int) (2 * n) (by omega) (rkind_known hk1) (rkind_known he1) (fun h => by have := rkind_holds hk1 h; omega) (fun h => by have := rkind_holds he1 h; omega) r hrl
            cases hO2 : ralt (rval d k) (rval d e) (2 * n) r with
            | bad s =>
              obtain ⟨M', ⟨i', bs', rfl⟩, h2⟩ := h55.bad hO2
              simp [mm, rd] at h2
              refine ⟨[rd sp bs'], ⟨bs', rfl⟩, ?_⟩
              simp [ann, reg, Try.f31, rd, nilO, isNil, h53', g0, h48, hb, w0, w1, w2, w3, w4, w5, w6, h54, h54e, h2]
            | ok l r2 =>
              have h2 := h55.ok hO2
              simp [mm, rd] at h2
              simp only [RO, gV, gRd, fin_cells]
              simp [ann, reg, Try.f31, rd, nilO, isNil, h53', g0, h48, hb, w0, w1, w2, w3, w4, w5, w6, h54, h54e, h2, irows, ← bstr_nil]
end
end Go.Proofs.Th
