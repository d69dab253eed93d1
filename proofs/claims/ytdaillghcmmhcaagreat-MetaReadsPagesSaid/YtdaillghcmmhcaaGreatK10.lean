/- META: when two headers, elements, what is known of values are the same, as' the machine asks it. -/
import Derived.Test.YtdaillghcmmhcaaGreatK09
import Derived.Test.YtdaillghcmmhcaaGreatK07
set_option linter.unusedSimpArgs false
set_option linter.unusedVariables false
open Go Go.Ag
namespace Go.Proofs.Th
theorem pr_isAgg {P : Program} {t : TypeId} {d : TypeDesc} (h : P.underlying t = some d) : pureRun P (isAgg t) = some (isRow d) := by
  unfold isAgg
  rw [pr_bind, pr_under P t h]
  cases d <;> rfl
theorem pr_part1 {P : Program} {t : TypeId} {d : TypeDesc} (h : P.underlying t = some d) (hd : isRow d = false) (cs : Array Value) (off : Nat) (v : Value) (hv : cs[off]? = some v) : pureRun P (part t cs off) = some v := by
  unfold part
  simp only [pr_bind, pr_isAgg h, hd, Option.bind_some, Bool.false_eq_true, if_false, hv, pr_pure]
theorem eqIn_int (d : Nat) {P : Program} {t : TypeId} {k : IntKind} (h : P.underlying t = some (.int k)) (a b : Int) : pureRun P (Op.equalIn (d + 1) t (.int k a) (.int k b)) = some (a == b) := by
  rw [Op.equalIn]
  simp only [pr_bind, pr_under P t h, Option.bind_some, if_true, pr_pure]
theorem eqIn_bool (d : Nat) {P : Program} {t : TypeId} (h : P.underlying t = some .bool) (a b : Bool) : pureRun P (Op.equalIn (d + 1) t (.bool a) (.bool b)) = some (a == b) := by
  rw [Op.equalIn]
  simp only [pr_bind, pr_under P t h, Option.bind_some, pr_pure]
theorem eqIn_str (d : Nat) {P : Program} {t : TypeId} (h : P.underlying t = some .string) (a b : ByteArray) : pureRun P (Op.equalIn (d + 1) t (.string a) (.string b)) = some (a == b) := by
  rw [Op.equalIn]
  simp only [pr_bind, pr_under P t h, Option.bind_some, pr_pure]
theorem ustr26 : Tryz.prog.underlying 26 = some (.struct #[{ name := "Nulls", type := 3, offset := 0, embedded := false, tag := "", pkgPath := "", byteOffset := 0 }, { name := "Has", type := 4, offset := 1, embedded := false, tag := "", pkgPath := "", byteOffset := 8 }, { name := "Least", type := 9, offset := 2, embedded := false, tag := "", pkgPath := "", byteOffset := 16 }, { name := "Most", type := 9, offset := 3, embedded := false, tag := "", pkgPath := "", byteOffset := 32 }]) := by kernel_rfl
theorem guard26 : Tryz.prog.eqGuardType Tryz.prog.depth 26 = false := by kernel_rfl
theorem held26 : Tryz.prog.stoodInHeld 26 = false := by kernel_rfl
set_option maxRecDepth 20000 in
set_option maxHeartbeats 8000000 in
theorem eqIn26 (d : Nat) (a0 b0 : Int) (a1 b1 : Bool) (a2 b2 : ByteArray) (a3 b3 : ByteArray) : pureRun Tryz.prog (Op.equalIn (d + 2) 26 (.agg #[.int .i64 a0, .bool a1, .string a2, .string a3]) (.agg #[.int .i64 b0, .bool b1, .string b2, .string b3])) = some ((a0 == b0) && ((a1 == b1) && ((a2 == b2) && (a3 == b3)))) := by
  rw [Op.equalIn]
  simp only [pr_bind, pr_under _ 26 ustr26, Option.bind_some, pr_program, held26, Bool.false_eq_true, if_false]
  cases e0 : (a0 == b0)
  · simp [pr_bind, pr_pure, eqIn_int _ und_3, pr_part1 und_3 rfl, eqIn_bool _ und_4, pr_part1 und_4 rfl, eqIn_str _ und_9, pr_part1 und_9 rfl, e0]
  cases e1 : (a1 == b1)
  · simp [pr_bind, pr_pure, eqIn_int _ und_3, pr_part1 und_3 rfl, eqIn_bool _ und_4, pr_part1 und_4 rfl, eqIn_str _ und_9, pr_part1 und_9 rfl, e0, e1]
  cases e2 : (a2 == b2)
  · simp [pr_bind, pr_pure, eqIn_int _ und_3, pr_part1 und_3 rfl, eqIn_bool _ und_4, pr_part1 und_4 rfl, eqIn_str _ und_9, pr_part1 und_9 rfl, e0, e1, e2]
  cases e3 : (a3 == b3)
  · simp [pr_bind, pr_pure, eqIn_int _ und_3, pr_part1 und_3 rfl, eqIn_bool _ und_4, pr_part1 und_4 rfl, eqIn_str _ und_9, pr_part1 und_9 rfl, e0, e1, e2, e3]
  simp [pr_bind, pr_pure, eqIn_int _ und_3, pr_part1 und_3 rfl, eqIn_bool _ und_4, pr_part1 und_4 rfl, eqIn_str _ und_9, pr_part1 und_9 rfl, e0, e1, e2, e3]
theorem pr_guard26 (op : BinOp) (x y : Operand) (a b : Array Value) : pureRun Tryz.prog (eqGuard op 26 x y (.agg a) (.agg b)) = some () := by
  cases op <;> simp [eqGuard, pr_bind, pr_program, guard26, pr_pure]
theorem pr_eql26 (a0 b0 : Int) (a1 b1 : Bool) (a2 b2 : ByteArray) (a3 b3 : ByteArray) : pureRun Tryz.prog (binOp .eql 26 (.agg #[.int .i64 a0, .bool a1, .string a2, .string a3]) (.agg #[.int .i64 b0, .bool b1, .string b2, .string b3])) = some (.bool ((a0 == b0) && ((a1 == b1) && ((a2 == b2) && (a3 == b3))))) := by
  have h : pureRun Tryz.prog (Op.equal 26 (.agg #[.int .i64 a0, .bool a1, .string a2, .string a3]) (.agg #[.int .i64 b0, .bool b1, .string b2, .string b3])) = some ((a0 == b0) && ((a1 == b1) && ((a2 == b2) && (a3 == b3)))) := eqIn26 9998 a0 b0 a1 b1 a2 b2 a3 b3
  simp only [binOp, pr_bind, h, Option.bind_some, pr_pure]
theorem cell26 : pureRun Tryz.prog (sizeOf 26) = some 4 := by kernel_rfl
theorem part26 (cs : Array Value) : pureRun Tryz.prog (part 26 cs 11) = some (.agg (cs.extract 11 15)) := by
  unfold part
  simp only [pr_bind, pr_isAgg ustr26, Option.bind_some, cell26, isRow, if_true, pr_pure]
theorem ustr28 : Tryz.prog.underlying 28 = some (.struct #[{ name := "Kind", type := 22, offset := 0, embedded := false, tag := "", pkgPath := "", byteOffset := 0 }, { name := "Raw", type := 3, offset := 1, embedded := false, tag := "", pkgPath := "", byteOffset := 8 }, { name := "Packed", type := 3, offset := 2, embedded := false, tag := "", pkgPath := "", byteOffset := 16 }, { name := "Sum", type := 23, offset := 3, embedded := false, tag := "", pkgPath := "", byteOffset := 24 }, { name := "Values", type := 3, offset := 4, embedded := false, tag := "", pkgPath := "", byteOffset := 32 }, { name := "Encoding", type := 24, offset := 5, embedded := false, tag := "", pkgPath := "", byteOffset := 40 }, { name := "Nulls", type := 3, offset := 6, embedded := false, tag := "", pkgPath := "", byteOffset := 48 }, { name := "Rows", type := 3, offset := 7, embedded := false, tag := "", pkgPath := "", byteOffset := 56 }, { name := "DefBytes", type := 3, offset := 8, embedded := false, tag := "", pkgPath := "", byteOffset := 64 }, { name := "RepBytes", type := 3, offset := 9, embedded := false, tag := "", pkgPath := "", byteOffset := 72 }, { name := "Squeezed", type := 4, offset := 10, embedded := false, tag := "", pkgPath := "", byteOffset := 80 }, { name := "Stats", type := 26, offset := 11, embedded := false, tag := "", pkgPath := "", byteOffset := 88 }]) := by kernel_rfl
theorem guard28 : Tryz.prog.eqGuardType Tryz.prog.depth 28 = false := by kernel_rfl
theorem held28 : Tryz.prog.stoodInHeld 28 = false := by kernel_rfl
set_option maxRecDepth 20000 in
set_option maxHeartbeats 8000000 in
theorem eqIn28 (d : Nat) (a0 b0 : Int) (a1 b1 : Int) (a2 b2 : Int) (a3 b3 : Int) (a4 b4 : Int) (a5 b5 : Int) (a6 b6 : Int) (a7 b7 : Int) (a8 b8 : Int) (a9 b9 : Int) (a10 b10 : Bool) (a11 b11 : Int) (a12 b12 : Bool) (a13 b13 : ByteArray) (a14 b14 : ByteArray) : pureRun Tryz.prog (Op.equalIn (d + 2+ 1) 28 (.agg #[.int .i64 a0, .int .i64 a1, .int .i64 a2, .int .u32 a3, .int .i64 a4, .int .i64 a5, .int .i64 a6, .int .i64 a7, .int .i64 a8, .int .i64 a9, .bool a10, .int .i64 a11, .bool a12, .string a13, .string a14]) (.agg #[.int .i64 b0, .int .i64 b1, .int .i64 b2, .int .u32 b3, .int .i64 b4, .int .i64 b5, .int .i64 b6, .int .i64 b7, .int .i64 b8, .int .i64 b9, .bool b10, .int .i64 b11, .bool b12, .string b13, .string b14])) = some ((a0 == b0) && ((a1 == b1) && ((a2 == b2) && ((a3 == b3) && ((a4 == b4) && ((a5 == b5) && ((a6 == b6) && ((a7 == b7) && ((a8 == b8) && ((a9 == b9) && ((a10 == b10) && (a11 == b11 && (a12 == b12 && (a13 == b13 && a14 == b14)))))))))))))) := by
  rw [Op.equalIn]
  simp only [pr_bind, pr_under _ 28 ustr28, Option.bind_some, pr_program, held28, Bool.false_eq_true, if_false]
  cases e0 : (a0 == b0)
  · simp [pr_bind, pr_pure, eqIn_int _ und_22, pr_part1 und_22 rfl, eqIn_int _ und_3, pr_part1 und_3 rfl, eqIn_int _ und_23, pr_part1 und_23 rfl, eqIn_int _ und_24, pr_part1 und_24 rfl, eqIn_bool _ und_4, pr_part1 und_4 rfl, eqIn26, part26, e0]
  cases e1 : (a1 == b1)
  · simp [pr_bind, pr_pure, eqIn_int _ und_22, pr_part1 und_22 rfl, eqIn_int _ und_3, pr_part1 und_3 rfl, eqIn_int _ und_23, pr_part1 und_23 rfl, eqIn_int _ und_24, pr_part1 und_24 rfl, eqIn_bool _ und_4, pr_part1 und_4 rfl, eqIn26, part26, e0, e1]
  cases e2 : (a2 == b2)
  · simp [pr_bind, pr_pure, eqIn_int _ und_22, pr_part1 und_22 rfl, eqIn_int _ und_3, pr_part1 und_3 rfl, eqIn_int _ und_23, pr_part1 und_23 rfl, eqIn_int _ und_24, pr_part1 und_24 rfl, eqIn_bool _ und_4, pr_part1 und_4 rfl, eqIn26, part26, e0, e1, e2]
  cases e3 : (a3 == b3)
  · simp [pr_bind, pr_pure, eqIn_int _ und_22, pr_part1 und_22 rfl, eqIn_int _ und_3, pr_part1 und_3 rfl, eqIn_int _ und_23, pr_part1 und_23 rfl, eqIn_int _ und_24, pr_part1 und_24 rfl, eqIn_bool _ und_4, pr_part1 und_4 rfl, eqIn26, part26, e0, e1, e2, e3]
  cases e4 : (a4 == b4)
  · simp [pr_bind, pr_pure, eqIn_int _ und_22, pr_part1 und_22 rfl, eqIn_int _ und_3, pr_part1 und_3 rfl, eqIn_int _ und_23, pr_part1 und_23 rfl, eqIn_int _ und_24, pr_part1 und_24 rfl, eqIn_bool _ und_4, pr_part1 und_4 rfl, eqIn26, part26, e0, e1, e2, e3, e4]
  cases e5 : (a5 == b5)
  · simp [pr_bind, pr_pure, eqIn_int _ und_22, pr_part1 und_22 rfl, eqIn_int _ und_3, pr_part1 und_3 rfl, eqIn_int _ und_23, pr_part1 und_23 rfl, eqIn_int _ und_24, pr_part1 und_24 rfl, eqIn_bool _ und_4, pr_part1 und_4 rfl, eqIn26, part26, e0, e1, e2, e3, e4, e5]
  cases e6 : (a6 == b6)
  · simp [pr_bind, pr_pure, eqIn_int _ und_22, pr_part1 und_22 rfl, eqIn_int _ und_3, pr_part1 und_3 rfl, eqIn_int _ und_23, pr_part1 und_23 rfl, eqIn_int _ und_24, pr_part1 und_24 rfl, eqIn_bool _ und_4, pr_part1 und_4 rfl, eqIn26, part26, e0, e1, e2, e3, e4, e5, e6]
  cases e7 : (a7 == b7)
  · simp [pr_bind, pr_pure, eqIn_int _ und_22, pr_part1 und_22 rfl, eqIn_int _ und_3, pr_part1 und_3 rfl, eqIn_int _ und_23, pr_part1 und_23 rfl, eqIn_int _ und_24, pr_part1 und_24 rfl, eqIn_bool _ und_4, pr_part1 und_4 rfl, eqIn26, part26, e0, e1, e2, e3, e4, e5, e6, e7]
  cases e8 : (a8 == b8)
  · simp [pr_bind, pr_pure, eqIn_int _ und_22, pr_part1 und_22 rfl, eqIn_int _ und_3, pr_part1 und_3 rfl, eqIn_int _ und_23, pr_part1 und_23 rfl, eqIn_int _ und_24, pr_part1 und_24 rfl, eqIn_bool _ und_4, pr_part1 und_4 rfl, eqIn26, part26, e0, e1, e2, e3, e4, e5, e6, e7, e8]
  cases e9 : (a9 == b9)
  · simp [pr_bind, pr_pure, eqIn_int _ und_22, pr_part1 und_22 rfl, eqIn_int _ und_3, pr_part1 und_3 rfl, eqIn_int _ und_23, pr_part1 und_23 rfl, eqIn_int _ und_24, pr_part1 und_24 rfl, eqIn_bool _ und_4, pr_part1 und_4 rfl, eqIn26, part26, e0, e1, e2, e3, e4, e5, e6, e7, e8, e9]
  cases e10 : (a10 == b10)
  · simp [pr_bind, pr_pure, eqIn_int _ und_22, pr_part1 und_22 rfl, eqIn_int _ und_3, pr_part1 und_3 rfl, eqIn_int _ und_23, pr_part1 und_23 rfl, eqIn_int _ und_24, pr_part1 und_24 rfl, eqIn_bool _ und_4, pr_part1 und_4 rfl, eqIn26, part26, e0, e1, e2, e3, e4, e5, e6, e7, e8, e9, e10]
  cases e11 : (a11 == b11 && (a12 == b12 && (a13 == b13 && a14 == b14)))
  · simp [pr_bind, pr_pure, eqIn_int _ und_22, pr_part1 und_22 rfl, eqIn_int _ und_3, pr_part1 und_3 rfl, eqIn_int _ und_23, pr_part1 und_23 rfl, eqIn_int _ und_24, pr_part1 und_24 rfl, eqIn_bool _ und_4, pr_part1 und_4 rfl, eqIn26, part26, e0, e1, e2, e3, e4, e5, e6, e7, e8, e9, e10, e11]
  simp [pr_bind, pr_pure, eqIn_int _ und_22, pr_part1 und_22 rfl, eqIn_int _ und_3, pr_part1 und_3 rfl, eqIn_int _ und_23, pr_part1 und_23 rfl, eqIn_int _ und_24, pr_part1 und_24 rfl, eqIn_bool _ und_4, pr_part1 und_4 rfl, eqIn26, part26, e0, e1, e2, e3, e4, e5, e6, e7, e8, e9, e10, e11]
theorem pr_guard28 (op : BinOp) (x y : Operand) (a b : Array Value) : pureRun Tryz.prog (eqGuard op 28 x y (.agg a) (.agg b)) = some () := by
  cases op <;> simp [eqGuard, pr_bind, pr_program, guard28, pr_pure]
theorem pr_eql28 (a0 b0 : Int) (a1 b1 : Int) (a2 b2 : Int) (a3 b3 : Int) (a4 b4 : Int) (a5 b5 : Int) (a6 b6 : Int) (a7 b7 : Int) (a8 b8 : Int) (a9 b9 : Int) (a10 b10 : Bool) (a11 b11 : Int) (a12 b12 : Bool) (a13 b13 : ByteArray) (a14 b14 : ByteArray) : pureRun Tryz.prog (binOp .eql 28 (.agg #[.int .i64 a0, .int .i64 a1, .int .i64 a2, .int .u32 a3, .int .i64 a4, .int .i64 a5, .int .i64 a6, .int .i64 a7, .int .i64 a8, .int .i64 a9, .bool a10, .int .i64 a11, .bool a12, .string a13, .string a14]) (.agg #[.int .i64 b0, .int .i64 b1, .int .i64 b2, .int .u32 b3, .int .i64 b4, .int .i64 b5, .int .i64 b6, .int .i64 b7, .int .i64 b8, .int .i64 b9, .bool b10, .int .i64 b11, .bool b12, .string b13, .string b14])) = some (.bool ((a0 == b0) && ((a1 == b1) && ((a2 == b2) && ((a3 == b3) && ((a4 == b4) && ((a5 == b5) && ((a6 == b6) && ((a7 == b7) && ((a8 == b8) && ((a9 == b9) && ((a10 == b10) && (a11 == b11 && (a12 == b12 && (a13 == b13 && a14 == b14))))))))))))))) := by
  have h : pureRun Tryz.prog (Op.equal 28 (.agg #[.int .i64 a0, .int .i64 a1, .int .i64 a2, .int .u32 a3, .int .i64 a4, .int .i64 a5, .int .i64 a6, .int .i64 a7, .int .i64 a8, .int .i64 a9, .bool a10, .int .i64 a11, .bool a12, .string a13, .string a14]) (.agg #[.int .i64 b0, .int .i64 b1, .int .i64 b2, .int .u32 b3, .int .i64 b4, .int .i64 b5, .int .i64 b6, .int .i64 b7, .int .i64 b8, .int .i64 b9, .bool b10, .int .i64 b11, .bool b12, .string b13, .string b14])) = some ((a0 == b0) && ((a1 == b1) && ((a2 == b2) && ((a3 == b3) && ((a4 == b4) && ((a5 == b5) && ((a6 == b6) && ((a7 == b7) && ((a8 == b8) && ((a9 == b9) && ((a10 == b10) && (a11 == b11 && (a12 == b12 && (a13 == b13 && a14 == b14)))))))))))))) := eqIn28 9997 a0 b0 a1 b1 a2 b2 a3 b3 a4 b4 a5 b5 a6 b6 a7 b7 a8 b8 a9 b9 a10 b10 a11 b11 a12 b12 a13 b13 a14 b14
  simp only [binOp, pr_bind, h, Option.bind_some, pr_pure]
end Go.Proofs.Th
open Go Go.Ag
namespace Go.Proofs.Th
attribute [local simp] ec_skip ec_region ec_seq ec_cond ec_block ec_loop ec_exit ec_ret seqK_normal seqK_exit seqK_ret seqK_pan condK_true condK_false blockK_exit blockK_normal blockK_ret blockK_pan regionK_plain regionK_draw eo_nil eo_cons cutS_nil cutOf opK_is wantK_yes wantK_no stepK_ret stepK_pan endK_normal endK_ret endK_pan annotate headS wantedA evOp evOp1 evA Ag.get putT dstOK argsEnv retK resR resAll resOne constAV constCell Ctx.bss evLoad evStore AV.cells intOfAV AV.val AV.vals splice okCell okCells_nil okCells_cons finish AV.lt AV.lts AV.ltss putObj partOf restrT ltT ownOK bsOK bsOKs List.lookup_cons pr_bind pr_pure pr_guard_int pr_guard_str pr_guard_bool pr_add pr_sub pr_mul pr_eql pr_neq pr_lss pr_leq pr_gtr pr_geq pr_seql pr_sneq pr_not pr_neg pr_shl pr_shr pr_quo pr_rem pr_and pr_or pr_xor pr_conv pr_min2 pr_max2 undef callP plA plS plR plO nameP ARes.keys putObj callW callAt callKs inS outS backK reachW pickM renObjs AObj.ren AV.ren AV.rens renss renE posOf backM outK lokAt ARes.ren AV.keys AV.keyss objKeys evFieldAddr evIndexAddr evLen evFill List.range_succ Value.oneCell' evInsert mfind sameKey isKey AObj.lt Value.cells
attribute [local simp] cells_len cells_ok cells_lt trows_lt irows_lt sp1_lt sp7_lt irows_len trows_len cells_0 cells_1 cells_2 cells_3 cells_4 cells_5 cells_6 cellg_0 cellg_1 cellg_2 cellg_3 cellg_4 cellg_5 cellg_6 cells_take cells_keys cells_rens pr_lenstr bstr_size
attribute [local simp] look_mp look_mp2 look_imp look_imp2 lookV lookB intKeys cond_vint cond_vbool bits_i64 bits_u64 bits_u8 bits_i8 bits_i32 bits_u32
attribute [local simp] wrap64_in wrapu64_in wrapu8_in
attribute [local simp] fz_int fz_str fz_bool fz_float fz_nilp fz_tuple fz_nili fz_nilf fz_nilm fz_any fz_nil fz_emp fz_ptr fz_rp fz_ip fz_imp fz_agg fz_tup fz_ifc fz_fn fz_sl fzRow_row fz_so fzMap_mp fz_mp appR_row appN appX_nil appX_emp appX_so appS_some appT_some app_is bsD_some bsB_some bsA_some bs1_is bsZ0_some bsA0_some bs0_is src_sl srcR_row src_so src_str src_nil src_emp rowsOK_nil rowsOK_cons rowsOK_app
attribute [local simp] irows_frz trows_frz sp1_frz sp7_frz cells_frz irows_ok trows_ok sp1_ok sp7_ok bRows_map_frz bRows_ok bRows_lt bRows_length strRows_bstr
attribute [local simp] trows_ta trows_da irows_ta irows_da bRows_ta bRows_da
attribute [local simp] mask_F maskF merge_F mergeF d_fast evFast_is f_nil f_cons fWantK_no fWantK_yes fFp_w fFp_r fClW_t fClR_t fOpW_r fOpR_r fValW_t fValR_t fastX_some clashFree isPureFP fpOf FP.has FP.meets restr Oper.looksAt isAlloc Op.operands Call.operands List.filter_cons rank Nat.testBit reach
section
set_option maxHeartbeats 4000000
attribute [local simp] pr_conv bstr_toList irows_fk irows_renss putOK
structure Hdr where
  kind : Int
  raw : Int
  packed : Int
  sum : Int
  values : Int
  enc : Int
  nulls : Int
  rows : Int
  defb : Int
  repb : Int
  sq : Bool
  st : Sts
def Hdr.cells (h : Hdr) : List AV := [.v (.int .i64 h.kind), .v (.int .i64 h.raw), .v (.int .i64 h.packed), .v (.int .u32 h.sum), .v (.int .i64 h.values), .v (.int .i64 h.enc), .v (.int .i64 h.nulls), .v (.int .i64 h.rows), .v (.int .i64 h.defb), .v (.int .i64 h.repb), .v (.bool h.sq), .v (.int .i64 h.st.nulls), .v (.bool h.st.has), .v (.string (bstr h.st.least)), .v (.string (bstr h.st.most))]
def Hdr.bare (h : Hdr) : Bool := (h.nulls == 0 && (h.rows == 0 && (h.defb == 0 && h.repb == 0))) && !h.sq
def Sts.zero (s : Sts) : Bool := s.nulls == 0 && (!s.has && (s.least == [] && s.most == []))
def Hdr.ok (h : Hdr) : Bool := (nat31 h.raw && (nat31 h.packed && (nat31 h.values && encOK h.enc))) &&
  (if h.kind = 0 then h.bare && h.st.ok else if h.kind = 2 then h.bare && h.st.zero else if h.kind = 3 then (nat31 h.nulls && (nat31 h.rows && (nat31 h.defb && nat31 h.repb))) && h.st.ok else false)
def boolT (b : Bool) : Th := .mk 1 0 0 (if b then 1 else 0) [] [] []
def innerT (h : Hdr) : Th := if h.kind = 0 then .mk 12 0 0 0 [] [1, 2, 3, 4, 5] [numT 5 h.values, numT 5 h.enc, numT 5 3, numT 5 3, stsT h.st] else if h.kind = 2 then .mk 12 0 0 0 [] [1, 2] [numT 5 h.values, numT 5 h.enc]
  else .mk 12 0 0 0 [] [1, 2, 3, 4, 5, 6, 7, 8] [numT 5 h.values, numT 5 h.nulls, numT 5 h.rows, numT 5 h.enc, numT 5 h.defb, numT 5 h.repb, boolT h.sq, stsT h.st]
def pageT (h : Hdr) : Th := .mk 12 0 0 0 [] [1, 2, 3, 4, (if h.kind = 0 then 5 else if h.kind = 2 then 7 else 8)] [numT 5 h.kind, numT 5 h.raw, numT 5 h.packed, numT 5 (IntKind.i32.wrap h.sum), innerT h]
theorem nat31_0 : nat31 0 = true := _root_.id rfl
theorem nat31_2 : nat31 2 = true := _root_.id rfl
theorem nat31_3 : nat31 3 = true := _root_.id rfl
theorem enc_nat {e : Int} (h : encOK e = true) : nat31 e = true := by
  simp [encOK] at h
  rcases h with h | h | h | h | h | h | h <;> subst h <;> rfl
@[simp] theorem bstr_beq (a b : List UInt8) : (bstr a == bstr b) = (a == b) := by
  show (a.toArray == b.toArray) = _
  simp
@[simp] theorem emp_beq : (ByteArray.empty == ByteArray.empty) = true := bstr_beq [] []
theorem i32_64 (x : Int) : IntKind.i64.wrap (IntKind.i32.wrap x) = IntKind.i32.wrap x := by
  have h := IntKind.wrap_i32 x
  exact wrap64_in (by omega) (by omega)
set_option maxRecDepth 20000 in
set_option maxHeartbeats 8000000 in
theorem m31_0 {h : Hdr} (hk : h.kind = 0) (hr : nat31 h.raw = true) (hp : nat31 h.packed = true) (hv : nat31 h.values = true) (he : encOK h.enc = true) (hb : h.bare = true) (hs : h.st.ok = true) : em 31 [.agg h.cells] [] = some (.ret (.agg ((pageT h).cells false)), []) := by
  obtain ⟨kind, raw, packed, sum, values, enc, nulls, rows, defb, repb, sq, st⟩ := h
  simp at hk hr hp hv he hs
  subst hk
  simp [Hdr.bare] at hb
  obtain ⟨⟨rfl, rfl, rfl, rfl⟩, rfl⟩ := hb
  have h74 := m74_t hs
  simp [Sts.cells] at h74
  have he' := enc_nat he
  have h73 := m73_t he
  refine ev_fnM Tryz.func31 rfl (Nat.le_of_ble_eq_true rfl) rfl ?_
  simp [regM, Tryz.f31, Hdr.cells, m70, s71, s72, hr, hp, hv, he', h73, h74, m75_t, nat31_0, nat31_3, nilO, isNil, cutS, frzS, frzM, frzObj, pr_eql28, pr_guard28, i32_64, pageT, innerT, Th.cells, trows, irows, sp1, sp7, numT_cells]
set_option maxRecDepth 20000 in
set_option maxHeartbeats 8000000 in
theorem m31_2 {h : Hdr} (hk : h.kind = 2) (hr : nat31 h.raw = true) (hp : nat31 h.packed = true) (hv : nat31 h.values = true) (he : encOK h.enc = true) (hb : h.bare = true) (hs : h.st.zero = true) : em 31 [.agg h.cells] [] = some (.ret (.agg ((pageT h).cells false)), []) := by
  obtain ⟨kind, raw, packed, sum, values, enc, nulls, rows, defb, repb, sq, ⟨n, a, l, m⟩⟩ := h
  simp at hk hr hp hv he hs
  subst hk
  simp [Hdr.bare] at hb
  simp [Sts.zero] at hs
  obtain ⟨rfl, rfl, rfl, rfl⟩ := hs
  obtain ⟨⟨rfl, rfl, rfl, rfl⟩, rfl⟩ := hb
  have he' := enc_nat he
  have h73 := m73_t he
  refine ev_fnM Tryz.func31 rfl (Nat.le_of_ble_eq_true rfl) rfl ?_
  simp [regM, Tryz.f31, Hdr.cells, m70, s71, s72, hr, hp, hv, he', h73, m75_t, nat31_2, nilO, isNil, cutS, frzS, frzM, frzObj, pr_eql28, pr_guard28, i32_64, pageT, innerT, Th.cells, trows, irows, sp1, sp7, numT_cells]
set_option maxRecDepth 20000 in
set_option maxHeartbeats 8000000 in
theorem m31_3 {h : Hdr} (hk : h.kind = 3) (hr : nat31 h.raw = true) (hp : nat31 h.packed = true) (hv : nat31 h.values = true) (he : encOK h.enc = true) (h1 : nat31 h.nulls = true) (h2 : nat31 h.rows = true) (h3 : nat31 h.defb = true) (h4 : nat31 h.repb = true) (hs : h.st.ok = true) : em 31 [.agg h.cells] [] = some (.ret (.agg ((pageT h).cells false)), []) := by
  obtain ⟨kind, raw, packed, sum, values, enc, nulls, rows, defb, repb, sq, st⟩ := h
  simp at hk hr hp hv he hs h1 h2 h3 h4
  subst hk
  have he' := enc_nat he
  have h73 := m73_t he
  have h74 := m74_t hs
  simp [Sts.cells] at h74
  refine ev_fnM Tryz.func31 rfl (Nat.le_of_ble_eq_true rfl) rfl ?_
  cases sq <;> simp [regM, Tryz.f31, Hdr.cells, m70, s71, s72, hr, hp, hv, he', h73, h74, h1, h2, h3, h4, m75_t, nat31_3, nilO, isNil, cutS, frzS, frzM, frzObj, pr_eql28, pr_guard28, i32_64, pageT, innerT, boolT, Th.cells, trows, irows, sp1, sp7, numT_cells]
end
end Go.Proofs.Th
/- META, the law in plain Lean: what is told may be told as' structures. -/
open Go Go.Ag
namespace Go.Proofs.Th
def strT (ids : List Int) (l : List Th) : Th := .mk 12 0 0 0 [] ids l
theorem nat31_in {n : Int} (h : nat31 n = true) : -2147483648 ≤ n ∧ n ≤ 2147483647 := by simp [nat31] at h; omega
theorem kind3 {h : Hdr} (ho : h.ok = true) : h.kind = 0 ∨ h.kind = 2 ∨ h.kind = 3 := by
  unfold Hdr.ok at ho
  simp only [Bool.and_eq_true] at ho
  by_cases k0 : h.kind = 0
  · exact .inl k0
  by_cases k2 : h.kind = 2
  · exact .inr (.inl k2)
  by_cases k3 : h.kind = 3
  · exact .inr (.inr k3)
  simp [k0, k2, k3] at ho
end Go.Proofs.Th
/- META: accounts, as' the machine holds them. -/
open Go Go.Ag
namespace Go.Proofs.Th
structure Elm where
  name : List UInt8
  rep : Int
  kids : Int
  kind : Int
  size : Int
structure Chk where
  path : List (List UInt8)
  kind : Int
  encs : List Int
  codec : Int
  values : Int
  raw : Int
  packed : Int
  data : Int
  dict : Int
  st : Sts
structure Grp where
  rows : Int
  raw : Int
  chunks : List Chk
structure Acc where
  version : Int
  schema : List Elm
  rows : Int
  groups : List Grp
  by' : List UInt8
def bspare : List UInt8 := [115, 112, 97, 114, 101]
def srows (l : List (List UInt8)) : List (List AV) := l.map fun s => [.v (.string (bstr s))]
def spS (sp : Bool) : List (List AV) := if sp then [[.v (.string (bstr bspare))]] else []
def spE (sp : Bool) : List (List AV) := if sp then [[.v (.int .i64 77)]] else []
def Elm.cells (e : Elm) : List AV := [.v (.string (bstr e.name)), .v (.int .i64 e.rep), .v (.int .i64 e.kids), .v (.int .i64 e.kind), .v (.int .i64 e.size)]
def spL (sp : Bool) : List (List AV) := if sp then [[.v (.string (bstr bspare)), .v (.int .i64 0), .v (.int .i64 0), .v (.int .i64 0), .v (.int .i64 0)]] else []
def Chk.cells (sp : Bool) (c : Chk) : List AV := [.sl (srows c.path) (spS sp), .v (.int .i64 c.kind), .sl (irows c.encs) (spE sp), .v (.int .i64 c.codec), .v (.int .i64 c.values), .v (.int .i64 c.raw), .v (.int .i64 c.packed), .v (.int .i64 c.data), .v (.int .i64 c.dict), .v (.int .i64 c.st.nulls), .v (.bool c.st.has), .v (.string (bstr c.st.least)), .v (.string (bstr c.st.most))]
def chk77 : List AV := [.sl [] [], .v (.int .i64 77), .sl [] [], .v (.int .i64 0), .v (.int .i64 0), .v (.int .i64 0), .v (.int .i64 0), .v (.int .i64 0), .v (.int .i64 0), .v (.int .i64 0), .v (.bool false), .v (.string ByteArray.empty), .v (.string ByteArray.empty)]
def spC (sp : Bool) : List (List AV) := if sp then [chk77] else []
def Grp.cells (sp : Bool) (g : Grp) : List AV := [.v (.int .i64 g.rows), .v (.int .i64 g.raw), .sl (g.chunks.map (Chk.cells sp)) (spC sp)]
def grp77 : List AV := [.v (.int .i64 77), .v (.int .i64 0), .sl [] []]
def spG (sp : Bool) : List (List AV) := if sp then [grp77] else []
def Acc.cells (sp : Bool) (m : Acc) : List AV := [.v (.int .i64 m.version), .sl (m.schema.map Elm.cells) (spL sp), .v (.int .i64 m.rows), .sl (m.groups.map (Grp.cells sp)) (spG sp), .v (.string (bstr m.by'))]
theorem ltss_map {α : Type} (c : α → List AV) (n : Nat) (h : ∀ a, AV.lts n (c a) = true) : ∀ l : List α, AV.ltss n (l.map c) = true
  | [] => rfl
  | a :: l => by
    have := ltss_map c n h l
    simp [AV.ltss, h a, this]
theorem frz_map {α : Type} (c : α → List AV) (M : Mem) (b n : Nat) (h : ∀ a, (c a).map (frz M b n) = c a) (l : List α) : (l.map c).map (fun r => r.map (frz M b n)) = l.map c := by
  rw [List.map_map]
  exact List.map_congr_left fun a _ => h a
theorem srows_lt (l : List (List UInt8)) (n : Nat) : AV.ltss n (srows l) = true := ltss_map _ n (fun a => by simp [AV.lts, AV.lt]) l
theorem spS_lt (sp : Bool) (n : Nat) : AV.ltss n (spS sp) = true := by cases sp <;> simp [spS, AV.ltss, AV.lts, AV.lt]
theorem spE_lt (sp : Bool) (n : Nat) : AV.ltss n (spE sp) = true := by cases sp <;> simp [spE, AV.ltss, AV.lts, AV.lt]
theorem spL_lt (sp : Bool) (n : Nat) : AV.ltss n (spL sp) = true := by cases sp <;> simp [spL, AV.ltss, AV.lts, AV.lt]
theorem spC_lt (sp : Bool) (n : Nat) : AV.ltss n (spC sp) = true := by cases sp <;> simp [spC, chk77, AV.ltss, AV.lts, AV.lt]
theorem spG_lt (sp : Bool) (n : Nat) : AV.ltss n (spG sp) = true := by cases sp <;> simp [spG, grp77, AV.ltss, AV.lts, AV.lt]
theorem elm_lt (n : Nat) (e : Elm) : AV.lts n e.cells = true := by simp [Elm.cells, AV.lts, AV.lt]
theorem chk_lt (sp : Bool) (n : Nat) (c : Chk) : AV.lts n (c.cells sp) = true := by simp [Chk.cells, AV.lts, AV.lt, srows_lt, spS_lt, irows_lt, spE_lt]
theorem grp_lt (sp : Bool) (n : Nat) (g : Grp) : AV.lts n (g.cells sp) = true := by simp [Grp.cells, AV.lts, AV.lt, spC_lt, ltss_map _ n (chk_lt sp n)]
end Go.Proofs.Th
/- META: arguments as' values. -/
open Go Go.Ag
namespace Go.Proofs.Th
theorem plainM : plainS Tryz.prog [28, 26, 22, 3, 23, 24, 4, 9, 52, 49, 69, 67, 66, 50, 89, 87, 94, 90, 91, 92, 31, 5] = true := by kernel_rfl
end Go.Proofs.Th
/- META, the law in plain Lean: what is told is a value of the machine's, of so many bytes. -/
open Go Go.Ag
namespace Go.Proofs.Th
theorem i64_of31 {n : Int} (h : -2147483648 ≤ n ∧ n ≤ 2147483647) : i64 n := ⟨by omega, by omega⟩
theorem ok_num {k n : Int} (hk : i64 k) (hn : i64 n) : (numT k n).ok := ⟨hk, i64_0, i64_0, hn, by simp, by simp, by simp, by simp, trivial⟩
theorem ok_txt {s : List UInt8} (h : s.length ≤ 1048576) : (txtT s).ok := ⟨⟨by omega, by omega⟩, i64_0, i64_0, i64_0, by unfold big; omega, by simp, by simp, by simp, trivial⟩
theorem ok_bool (b : Bool) : (boolT b).ok := ⟨⟨by omega, by omega⟩, i64_0, i64_0, by cases b <;> exact ⟨by simp, by simp⟩, by simp, by simp, by simp, by simp, trivial⟩
theorem ok_str {ids : List Int} {l : List Th} (h1 : ids.length ≤ 1000000) (h2 : l.length ≤ 1000000) (h3 : ∀ i ∈ ids, i64 i) (h4 : ∀ x ∈ l, x.ok) : (strT ids l).ok :=
  ⟨⟨by omega, by omega⟩, i64_0, i64_0, i64_0, by simp, by unfold big; omega, h3, by unfold big; omega, oks_of h4⟩
theorem i64_s {l : List Int} (h : (l.all fun i => decide (-9223372036854775808 ≤ i) && decide (i ≤ 9223372036854775807)) = true) : ∀ i ∈ l, i64 i := by
  intro i hi
  have := List.all_eq_true.1 h i hi
  simp at this
  exact this
theorem ok_stats {s : Sts} (h : s.ok = true) : (stsT s).ok := by
  simp [Sts.ok] at h
  obtain ⟨h1, ⟨h2, h3⟩, _⟩ := h
  cases hh : s.has with
  | true =>
    simp only [stsT, hh, if_true]
    refine ok_str (by simp) (by simp) (i64_s rfl) ?_
    intro x hx
    simp at hx
    rcases hx with rfl | rfl | rfl
    · exact ok_num ⟨by omega, by omega⟩ (i64_of31 (nat31_in h1))
    · exact ok_txt h3
    · exact ok_txt h2
  | false =>
    simp only [stsT, hh, Bool.false_eq_true, if_false]
    refine ok_str (by simp) (by simp) (i64_s rfl) ?_
    intro x hx
    simp at hx
    subst hx
    exact ok_num ⟨by omega, by omega⟩ (i64_of31 (nat31_in h1))
theorem ok5 {n : Int} (h : nat31 n = true) : (numT 5 n).ok := ok_num ⟨by omega, by omega⟩ (i64_of31 (nat31_in h))
theorem ok_page {h : Hdr} (ho : h.ok = true) : (pageT h).ok := by
  have hk := kind3 ho
  unfold Hdr.ok at ho
  simp only [Bool.and_eq_true] at ho
  obtain ⟨⟨hr, hp, hv, he⟩, hx⟩ := ho
  have he' := enc_nat he
  have hw : -2147483648 ≤ IntKind.i32.wrap h.sum ∧ IntKind.i32.wrap h.sum ≤ 2147483647 := by have := IntKind.wrap_i32 h.sum; omega
  have hin : (innerT h).ok := by
    unfold innerT
    rcases hk with k | k | k
    · rw [if_pos k]
      rw [if_pos k, Bool.and_eq_true] at hx
      refine ok_str (by simp) (by simp) (i64_s rfl) ?_
      intro x hx'
      simp at hx'
      rcases hx' with rfl | rfl | rfl | rfl
      · exact ok5 hv
      · exact ok5 he'
      · exact ok5 nat31_3
      · exact ok_stats hx.2
    · have k0 : ¬ h.kind = 0 := by omega
      rw [if_neg k0, if_pos k]
      refine ok_str (by simp) (by simp) (i64_s rfl) ?_
      intro x hx'
      simp at hx'
      rcases hx' with rfl | rfl
      · exact ok5 hv
      · exact ok5 he'
    · have k0 : ¬ h.kind = 0 := by omega
      have k2 : ¬ h.kind = 2 := by omega
      rw [if_neg k0, if_neg k2]
      rw [if_neg k0, if_neg k2, if_pos k] at hx
      simp only [Bool.and_eq_true] at hx
      refine ok_str (by simp) (by simp) (i64_s rfl) ?_
      intro x hx'
      simp at hx'
      rcases hx' with rfl | rfl | rfl | rfl | rfl | rfl | rfl | rfl
      · exact ok5 hv
      · exact ok5 hx.1.1
      · exact ok5 hx.1.2.1
      · exact ok5 he'
      · exact ok5 hx.1.2.2.1
      · exact ok5 hx.1.2.2.2
      · exact ok_bool _
      · exact ok_stats hx.2
  refine ok_str (by simp) (by simp) ?_ ?_
  · rcases hk with k | k | k
    · rw [if_pos k]; exact i64_s rfl
    · rw [if_neg (by omega), if_pos k]; exact i64_s rfl
    · rw [if_neg (by omega), if_neg (by omega)]; exact i64_s rfl
  · intro x hx'
    simp at hx'
    rcases hx' with rfl | rfl | rfl | rfl | rfl
    · exact ok_num ⟨by omega, by omega⟩ (by rcases hk with k | k | k <;> rw [k] <;> exact ⟨by omega, by omega⟩)
    · exact ok5 hr
    · exact ok5 hp
    · exact ok_num ⟨by omega, by omega⟩ (i64_of31 hw)
    · exact hin
end Go.Proofs.Th
open Go Go.Ag
namespace Go.Proofs.Th
attribute [local simp] ec_skip ec_region ec_seq ec_cond ec_block ec_loop ec_exit ec_ret seqK_normal seqK_exit seqK_ret seqK_pan condK_true condK_false blockK_exit blockK_normal blockK_ret blockK_pan regionK_plain regionK_draw eo_nil eo_cons cutS_nil cutOf opK_is wantK_yes wantK_no stepK_ret stepK_pan endK_normal endK_ret endK_pan annotate headS wantedA evOp evOp1 evA Ag.get putT dstOK argsEnv retK resR resAll resOne constAV constCell Ctx.bss evLoad evStore AV.cells intOfAV AV.val AV.vals splice okCell okCells_nil okCells_cons finish AV.lt AV.lts AV.ltss putObj partOf restrT ltT ownOK bsOK bsOKs List.lookup_cons pr_bind pr_pure pr_guard_int pr_guard_str pr_guard_bool pr_add pr_sub pr_mul pr_eql pr_neq pr_lss pr_leq pr_gtr pr_geq pr_seql pr_sneq pr_not pr_neg pr_shl pr_shr pr_quo pr_rem pr_and pr_or pr_xor pr_conv pr_min2 pr_max2 undef callP plA plS plR plO nameP ARes.keys putObj callW callAt callKs inS outS backK reachW pickM renObjs AObj.ren AV.ren AV.rens renss renE posOf backM outK lokAt ARes.ren AV.keys AV.keyss objKeys evFieldAddr evIndexAddr evLen evFill List.range_succ Value.oneCell' evInsert mfind sameKey isKey AObj.lt Value.cells
attribute [local simp] cells_len cells_ok cells_lt trows_lt irows_lt sp1_lt sp7_lt irows_len trows_len cells_0 cells_1 cells_2 cells_3 cells_4 cells_5 cells_6 cellg_0 cellg_1 cellg_2 cellg_3 cellg_4 cellg_5 cellg_6 cells_take cells_keys cells_rens pr_lenstr bstr_size
attribute [local simp] look_mp look_mp2 look_imp look_imp2 lookV lookB intKeys cond_vint cond_vbool bits_i64 bits_u64 bits_u8 bits_i8 bits_i32 bits_u32
attribute [local simp] wrap64_in wrapu64_in wrapu8_in
attribute [local simp] fz_int fz_str fz_bool fz_float fz_nilp fz_tuple fz_nili fz_nilf fz_nilm fz_any fz_nil fz_emp fz_ptr fz_rp fz_ip fz_imp fz_agg fz_tup fz_ifc fz_fn fz_sl fzRow_row fz_so fzMap_mp fz_mp appR_row appN appX_nil appX_emp appX_so appS_some appT_some app_is bsD_some bsB_some bsA_some bs1_is bsZ0_some bsA0_some bs0_is src_sl srcR_row src_so src_str src_nil src_emp rowsOK_nil rowsOK_cons rowsOK_app
attribute [local simp] irows_frz trows_frz sp1_frz sp7_frz cells_frz irows_ok trows_ok sp1_ok sp7_ok bRows_map_frz bRows_ok bRows_lt bRows_length strRows_bstr
attribute [local simp] trows_ta trows_da irows_ta irows_da bRows_ta bRows_da
attribute [local simp] mask_F maskF merge_F mergeF d_fast evFast_is f_nil f_cons fWantK_no fWantK_yes fFp_w fFp_r fClW_t fClR_t fOpW_r fOpR_r fValW_t fValR_t fastX_some clashFree isPureFP fpOf FP.has FP.meets restr Oper.looksAt isAlloc Op.operands Call.operands List.filter_cons rank Nat.testBit reach
section
set_option maxHeartbeats 4000000
attribute [local simp] pr_conv bstr_toList irows_fk irows_renss putOK
theorem eq0 {x : Int} (h : ((0 : Int) == x) = true) : x = 0 := by have := eq_of_beq h; omega
set_option maxRecDepth 20000 in
set_option maxHeartbeats 16000000 in
theorem m31_f0 {h : Hdr} (hk : h.kind = 0) (hf : h.ok = false) : em 31 [.agg h.cells] [] = some (.pan (fl 2), []) := by
  obtain ⟨kind, raw, packed, sum, values, enc, nulls, rows, defb, repb, sq, st⟩ := h
  simp at hk
  subst hk
  refine ev_fnM Tryz.func31 rfl (Nat.le_of_ble_eq_true rfl) rfl ?_
  cases hr : nat31 raw with
  | false =>
    simp [regM, Tryz.f31, Hdr.cells, m70, s71, s72, m71_f, m75_t, m75_f, nat31_0, nat31_2, nat31_3, nilO, isNil, cutS, frzS, frzM, frzObj, pr_eql28, pr_guard28, i32_64, hr]
  | true =>
  cases hp : nat31 packed with
  | false =>
    simp [regM, Tryz.f31, Hdr.cells, m70, s71, s72, m71_f, m75_t, m75_f, nat31_0, nat31_2, nat31_3, nilO, isNil, cutS, frzS, frzM, frzObj, pr_eql28, pr_guard28, i32_64, hr, hp]
  | true =>
  cases hv : nat31 values with
  | false =>
    simp [regM, Tryz.f31, Hdr.cells, m70, s71, s72, m71_f, m75_t, m75_f, nat31_0, nat31_2, nat31_3, nilO, isNil, cutS, frzS, frzM, frzObj, pr_eql28, pr_guard28, i32_64, hr, hp, hv]
  | true =>
  cases he : encOK enc with
  | false =>
    have h73 := m73_f he
    simp [regM, Tryz.f31, Hdr.cells, m70, s71, s72, m71_f, m75_t, m75_f, nat31_0, nat31_2, nat31_3, nilO, isNil, cutS, frzS, frzM, frzObj, pr_eql28, pr_guard28, i32_64, hr, hp, hv, h73]
  | true =>
  have he' := enc_nat he
  have h73 := m73_t he
  cases hs : st.ok with
  | false =>
    have h74 := m74_f hs
    simp [Sts.cells] at h74
    simp [regM, Tryz.f31, Hdr.cells, m70, s71, s72, m71_f, m75_t, m75_f, nat31_0, nat31_2, nat31_3, nilO, isNil, cutS, frzS, frzM, frzObj, pr_eql28, pr_guard28, i32_64, hr, hp, hv, he', h73, h74]
  | true =>
  have h74 := m74_t hs
  simp [Sts.cells] at h74
  cases e1 : ((0 : Int) == nulls) with
  | false =>
    simp [regM, Tryz.f31, Hdr.cells, m70, s71, s72, m71_f, m75_t, m75_f, nat31_0, nat31_2, nat31_3, nilO, isNil, cutS, frzS, frzM, frzObj, pr_eql28, pr_guard28, i32_64, hr, hp, hv, he', h73, e1, h74]
  | true =>
  cases e2 : ((0 : Int) == rows) with
  | false =>
    simp [regM, Tryz.f31, Hdr.cells, m70, s71, s72, m71_f, m75_t, m75_f, nat31_0, nat31_2, nat31_3, nilO, isNil, cutS, frzS, frzM, frzObj, pr_eql28, pr_guard28, i32_64, hr, hp, hv, he', h73, e1, e2, h74]
  | true =>
  cases e3 : ((0 : Int) == defb) with
  | false =>
    simp [regM, Tryz.f31, Hdr.cells, m70, s71, s72, m71_f, m75_t, m75_f, nat31_0, nat31_2, nat31_3, nilO, isNil, cutS, frzS, frzM, frzObj, pr_eql28, pr_guard28, i32_64, hr, hp, hv, he', h73, e1, e2, e3, h74]
  | true =>
  cases e4 : ((0 : Int) == repb) with
  | false =>
    simp [regM, Tryz.f31, Hdr.cells, m70, s71, s72, m71_f, m75_t, m75_f, nat31_0, nat31_2, nat31_3, nilO, isNil, cutS, frzS, frzM, frzObj, pr_eql28, pr_guard28, i32_64, hr, hp, hv, he', h73, e1, e2, e3, e4, h74]
  | true =>
  cases sq with
  | true =>
    simp [regM, Tryz.f31, Hdr.cells, m70, s71, s72, m71_f, m75_t, m75_f, nat31_0, nat31_2, nat31_3, nilO, isNil, cutS, frzS, frzM, frzObj, pr_eql28, pr_guard28, i32_64, hr, hp, hv, he', h73, e1, e2, e3, e4, h74]
  | false =>
  have := eq0 e1
  have := eq0 e2
  have := eq0 e3
  have := eq0 e4
  subst_vars
  simp [Hdr.ok, Hdr.bare, hr, hp, hv, he, hs] at hf
set_option maxRecDepth 20000 in
set_option maxHeartbeats 16000000 in
theorem m31_f2 {h : Hdr} (hk : h.kind = 2) (hf : h.ok = false) : em 31 [.agg h.cells] [] = some (.pan (fl 2), []) := by
  obtain ⟨kind, raw, packed, sum, values, enc, nulls, rows, defb, repb, sq, ⟨n, a, l, m⟩⟩ := h
  simp at hk
  subst hk
  refine ev_fnM Tryz.func31 rfl (Nat.le_of_ble_eq_true rfl) rfl ?_
  cases hr : nat31 raw with
  | false =>
    simp [regM, Tryz.f31, Hdr.cells, m70, s71, s72, m71_f, m75_t, m75_f, nat31_0, nat31_2, nat31_3, nilO, isNil, cutS, frzS, frzM, frzObj, pr_eql28, pr_guard28, i32_64, hr]
  | true =>
  cases hp : nat31 packed with
  | false =>
    simp [regM, Tryz.f31, Hdr.cells, m70, s71, s72, m71_f, m75_t, m75_f, nat31_0, nat31_2, nat31_3, nilO, isNil, cutS, frzS, frzM, frzObj, pr_eql28, pr_guard28, i32_64, hr, hp]
  | true =>
  cases hv : nat31 values with
  | false =>
    simp [regM, Tryz.f31, Hdr.cells, m70, s71, s72, m71_f, m75_t, m75_f, nat31_0, nat31_2, nat31_3, nilO, isNil, cutS, frzS, frzM, frzObj, pr_eql28, pr_guard28, i32_64, hr, hp, hv]
  | true =>
  cases he : encOK enc with
  | false =>
    have h73 := m73_f he
    simp [regM, Tryz.f31, Hdr.cells, m70, s71, s72, m71_f, m75_t, m75_f, nat31_0, nat31_2, nat31_3, nilO, isNil, cutS, frzS, frzM, frzObj, pr_eql28, pr_guard28, i32_64, hr, hp, hv, h73]
  | true =>
  have he' := enc_nat he
  have h73 := m73_t he
  cases e1 : ((0 : Int) == nulls) with
  | false =>
    simp [regM, Tryz.f31, Hdr.cells, m70, s71, s72, m71_f, m75_t, m75_f, nat31_0, nat31_2, nat31_3, nilO, isNil, cutS, frzS, frzM, frzObj, pr_eql28, pr_guard28, i32_64, hr, hp, hv, he', h73, e1, hr]
  | true =>
  cases e2 : ((0 : Int) == rows) with
  | false =>
    simp [regM, Tryz.f31, Hdr.cells, m70, s71, s72, m71_f, m75_t, m75_f, nat31_0, nat31_2, nat31_3, nilO, isNil, cutS, frzS, frzM, frzObj, pr_eql28, pr_guard28, i32_64, hr, hp, hv, he', h73, e1, e2, hr]
  | true =>
  cases e3 : ((0 : Int) == defb) with
  | false =>
    simp [regM, Tryz.f31, Hdr.cells, m70, s71, s72, m71_f, m75_t, m75_f, nat31_0, nat31_2, nat31_3, nilO, isNil, cutS, frzS, frzM, frzObj, pr_eql28, pr_guard28, i32_64, hr, hp, hv, he', h73, e1, e2, e3, hr]
  | true =>
  cases e4 : ((0 : Int) == repb) with
  | false =>
    simp [regM, Tryz.f31, Hdr.cells, m70, s71, s72, m71_f, m75_t, m75_f, nat31_0, nat31_2, nat31_3, nilO, isNil, cutS, frzS, frzM, frzObj, pr_eql28, pr_guard28, i32_64, hr, hp, hv, he', h73, e1, e2, e3, e4, hr]
  | true =>
  cases sq with
  | true =>
    simp [regM, Tryz.f31, Hdr.cells, m70, s71, s72, m71_f, m75_t, m75_f, nat31_0, nat31_2, nat31_3, nilO, isNil, cutS, frzS, frzM, frzObj, pr_eql28, pr_guard28, i32_64, hr, hp, hv, he', h73, e1, e2, e3, e4, hr]
  | false =>
  cases e5 : ((0 : Int) == n) with
  | false =>
    simp [regM, Tryz.f31, Hdr.cells, m70, s71, s72, m71_f, m75_t, m75_f, nat31_0, nat31_2, nat31_3, nilO, isNil, cutS, frzS, frzM, frzObj, pr_eql28, pr_guard28, i32_64, hr, hp, hv, he', h73, e1, e2, e3, e4, e5]
  | true =>
  cases a with
  | true =>
    simp [regM, Tryz.f31, Hdr.cells, m70, s71, s72, m71_f, m75_t, m75_f, nat31_0, nat31_2, nat31_3, nilO, isNil, cutS, frzS, frzM, frzObj, pr_eql28, pr_guard28, i32_64, hr, hp, hv, he', h73, e1, e2, e3, e4, e5]
  | false =>
  have el : ∀ x : List UInt8, (ByteArray.empty == bstr x) = (([] : List UInt8) == x) := fun x => bstr_beq [] x
  cases e6 : (([] : List UInt8) == l) with
  | false =>
    simp [regM, Tryz.f31, Hdr.cells, m70, s71, s72, m71_f, m75_t, m75_f, nat31_0, nat31_2, nat31_3, nilO, isNil, cutS, frzS, frzM, frzObj, pr_eql28, pr_guard28, i32_64, hr, hp, hv, he', h73, e1, e2, e3, e4, e5, el, e6]
  | true =>
  cases e7 : (([] : List UInt8) == m) with
  | false =>
    simp [regM, Tryz.f31, Hdr.cells, m70, s71, s72, m71_f, m75_t, m75_f, nat31_0, nat31_2, nat31_3, nilO, isNil, cutS, frzS, frzM, frzObj, pr_eql28, pr_guard28, i32_64, hr, hp, hv, he', h73, e1, e2, e3, e4, e5, el, e6, e7]
  | true =>
  have := eq0 e1
  have := eq0 e2
  have := eq0 e3
  have := eq0 e4
  have := eq0 e5
  have := eq_of_beq e6
  have := eq_of_beq e7
  subst_vars
  simp [Hdr.ok, Hdr.bare, Sts.zero, hr, hp, hv, he] at hf
set_option maxRecDepth 20000 in
set_option maxHeartbeats 16000000 in
theorem m31_f3 {h : Hdr} (hk : h.kind = 3) (hf : h.ok = false) : em 31 [.agg h.cells] [] = some (.pan (fl 2), []) := by
  obtain ⟨kind, raw, packed, sum, values, enc, nulls, rows, defb, repb, sq, st⟩ := h
  simp at hk
  subst hk
  refine ev_fnM Tryz.func31 rfl (Nat.le_of_ble_eq_true rfl) rfl ?_
  cases hr : nat31 raw with
  | false =>
    simp [regM, Tryz.f31, Hdr.cells, m70, s71, s72, m71_f, m75_t, m75_f, nat31_0, nat31_2, nat31_3, nilO, isNil, cutS, frzS, frzM, frzObj, pr_eql28, pr_guard28, i32_64, hr]
  | true =>
  cases hp : nat31 packed with
  | false =>
    simp [regM, Tryz.f31, Hdr.cells, m70, s71, s72, m71_f, m75_t, m75_f, nat31_0, nat31_2, nat31_3, nilO, isNil, cutS, frzS, frzM, frzObj, pr_eql28, pr_guard28, i32_64, hr, hp]
  | true =>
  cases hv : nat31 values with
  | false =>
    simp [regM, Tryz.f31, Hdr.cells, m70, s71, s72, m71_f, m75_t, m75_f, nat31_0, nat31_2, nat31_3, nilO, isNil, cutS, frzS, frzM, frzObj, pr_eql28, pr_guard28, i32_64, hr, hp, hv]
  | true =>
  cases h1 : nat31 nulls with
  | false =>
    simp [regM, Tryz.f31, Hdr.cells, m70, s71, s72, m71_f, m75_t, m75_f, nat31_0, nat31_2, nat31_3, nilO, isNil, cutS, frzS, frzM, frzObj, pr_eql28, pr_guard28, i32_64, hr, hp, hv, h1]
  | true =>
  cases h2 : nat31 rows with
  | false =>
    simp [regM, Tryz.f31, Hdr.cells, m70, s71, s72, m71_f, m75_t, m75_f, nat31_0, nat31_2, nat31_3, nilO, isNil, cutS, frzS, frzM, frzObj, pr_eql28, pr_guard28, i32_64, hr, hp, hv, h1, h2]
  | true =>
  cases he : encOK enc with
  | false =>
    have h73 := m73_f he
    simp [regM, Tryz.f31, Hdr.cells, m70, s71, s72, m71_f, m75_t, m75_f, nat31_0, nat31_2, nat31_3, nilO, isNil, cutS, frzS, frzM, frzObj, pr_eql28, pr_guard28, i32_64, hr, hp, hv, h1, h2, h73]
  | true =>
  have he' := enc_nat he
  have h73 := m73_t he
  cases h3 : nat31 defb with
  | false =>
    simp [regM, Tryz.f31, Hdr.cells, m70, s71, s72, m71_f, m75_t, m75_f, nat31_0, nat31_2, nat31_3, nilO, isNil, cutS, frzS, frzM, frzObj, pr_eql28, pr_guard28, i32_64, hr, hp, hv, h1, h2, he', h73, h3]
  | true =>
  cases h4 : nat31 repb with
  | false =>
    simp [regM, Tryz.f31, Hdr.cells, m70, s71, s72, m71_f, m75_t, m75_f, nat31_0, nat31_2, nat31_3, nilO, isNil, cutS, frzS, frzM, frzObj, pr_eql28, pr_guard28, i32_64, hr, hp, hv, h1, h2, he', h73, h3, h4]
  | true =>
  cases hs : st.ok with
  | false =>
    have h74 := m74_f hs
    simp [Sts.cells] at h74
    cases sq with
    | true =>
      simp [regM, Tryz.f31, Hdr.cells, m70, s71, s72, m71_f, m75_t, m75_f, nat31_0, nat31_2, nat31_3, nilO, isNil, cutS, frzS, frzM, frzObj, pr_eql28, pr_guard28, i32_64, hr, hp, hv, h1, h2, he', h73, h3, h4, h74]
    | false =>
      simp [regM, Tryz.f31, Hdr.cells, m70, s71, s72, m71_f, m75_t, m75_f, nat31_0, nat31_2, nat31_3, nilO, isNil, cutS, frzS, frzM, frzObj, pr_eql28, pr_guard28, i32_64, hr, hp, hv, h1, h2, he', h73, h3, h4, h74]
  | true => simp [Hdr.ok, hr, hp, hv, he, h1, h2, h3, h4, hs] at hf
set_option maxRecDepth 20000 in
set_option maxHeartbeats 16000000 in
theorem m31_fx {h : Hdr} (k0 : h.kind ≠ 0) (k2 : h.kind ≠ 2) (k3 : h.kind ≠ 3) : em 31 [.agg h.cells] [] = some (.pan (fl 2), []) := by
  obtain ⟨kind, raw, packed, sum, values, enc, nulls, rows, defb, repb, sq, st⟩ := h
  simp at k0 k2 k3
  have g0 : (kind == 0) = false := by simp [k0]
  have g2 : (kind == 2) = false := by simp [k2]
  have g3 : (kind == 3) = false := by simp [k3]
  refine ev_fnM Tryz.func31 rfl (Nat.le_of_ble_eq_true rfl) rfl ?_
  cases hk : nat31 kind with
  | false =>
    simp [regM, Tryz.f31, Hdr.cells, m70, s71, s72, m71_f, m75_t, m75_f, nat31_0, nat31_2, nat31_3, nilO, isNil, cutS, frzS, frzM, frzObj, pr_eql28, pr_guard28, i32_64, hk]
  | true =>
  cases hr : nat31 raw with
  | false =>
    simp [regM, Tryz.f31, Hdr.cells, m70, s71, s72, m71_f, m75_t, m75_f, nat31_0, nat31_2, nat31_3, nilO, isNil, cutS, frzS, frzM, frzObj, pr_eql28, pr_guard28, i32_64, hk, hr]
  | true =>
  cases hp : nat31 packed with
  | false =>
    simp [regM, Tryz.f31, Hdr.cells, m70, s71, s72, m71_f, m75_t, m75_f, nat31_0, nat31_2, nat31_3, nilO, isNil, cutS, frzS, frzM, frzObj, pr_eql28, pr_guard28, i32_64, hk, hr, hp]
  | true =>
  cases hv : nat31 values with
  | false =>
    simp [regM, Tryz.f31, Hdr.cells, m70, s71, s72, m71_f, m75_t, m75_f, nat31_0, nat31_2, nat31_3, nilO, isNil, cutS, frzS, frzM, frzObj, pr_eql28, pr_guard28, i32_64, hk, hr, hp, hv]
  | true =>
  simp [regM, Tryz.f31, Hdr.cells, m70, s71, s72, m71_f, m75_t, m75_f, nat31_0, nat31_2, nat31_3, nilO, isNil, cutS, frzS, frzM, frzObj, pr_eql28, pr_guard28, i32_64, hk, hr, hp, hv, g0, g2, g3]
theorem m31 (h : Hdr) : em 31 [.agg h.cells] [] = some (if h.ok = true then .ret (.agg ((pageT h).cells false)) else .pan (fl 2), []) := by
  by_cases ho : h.ok = true
  · rw [if_pos ho]
    have ho' := ho
    unfold Hdr.ok at ho
    simp only [Bool.and_eq_true] at ho
    obtain ⟨⟨hr, hp, hv, he⟩, hx⟩ := ho
    by_cases k0 : h.kind = 0
    · rw [if_pos k0, Bool.and_eq_true] at hx
      exact m31_0 k0 hr hp hv he hx.1 hx.2
    rw [if_neg k0] at hx
    by_cases k2 : h.kind = 2
    · rw [if_pos k2, Bool.and_eq_true] at hx
      exact m31_2 k2 hr hp hv he hx.1 hx.2
    rw [if_neg k2] at hx
    by_cases k3 : h.kind = 3
    · rw [if_pos k3] at hx
      simp only [Bool.and_eq_true] at hx
      exact m31_3 k3 hr hp hv he hx.1.1 hx.1.2.1 hx.1.2.2.1 hx.1.2.2.2 hx.2
    · rw [if_neg k3] at hx
      cases hx
  · rw [if_neg ho]
    have hf : h.ok = false := by simpa using ho
    by_cases k0 : h.kind = 0
    · exact m31_f0 k0 hf
    by_cases k2 : h.kind = 2
    · exact m31_f2 k2 hf
    by_cases k3 : h.kind = 3
    · exact m31_f3 k3 hf
    exact m31_fx k0 k2 k3
end
section
set_option maxHeartbeats 4000000
attribute [local simp] pr_conv bstr_toList
theorem fl_g (t : Tmp) (e : Int) : pureRun Tryz.prog (eqGuard .eql 20 (.tmp t) (.const .nilIface) (.iface 149 (.agg #[.int .i64 e])) .nilIface) = some () := _root_.id (by kernel_rfl)
theorem fl_e (e : Int) : pureRun Tryz.prog (binOp .eql 20 (.iface 149 (.agg #[.int .i64 e])) .nilIface) = some (.bool false) := _root_.id (by kernel_rfl)
theorem nl_g (t : Tmp) : pureRun Tryz.prog (eqGuard .eql 20 (.tmp t) (.const .nilIface) .nilIface .nilIface) = some () := _root_.id (by kernel_rfl)
section
variable {f : FuncId} {cs : List AV} (hlt : AV.lts 0 cs = true)
set_option maxRecDepth 20000 in
set_option maxHeartbeats 8000000 in
include hlt in
set_option maxRecDepth 20000 in
set_option maxHeartbeats 8000000 in
include hlt in
end
theorem Hdr.cells_lt (h : Hdr) (n : Nat) : AV.lts n h.cells = true := by simp [Hdr.cells, AV.lts, AV.lt]
theorem Hdr.cells_len (h : Hdr) : h.cells.length = 15 := rfl
theorem Hdr.cells_ok (h : Hdr) : okCells h.cells = true := by simp [Hdr.cells, okCells, okCell, Value.oneCell']
end
end Go.Proofs.Th
/- META: the second layer of what the runs are told. -/
open Go Go.Ag
namespace Go.Proofs.Th
def regN (f : FuncId) (r : Nat) : Option Ann := match f, r with
  | 12, 4 => some { cut := [(15, 1, 4)] }
  | 81, 2 => some { cut := [(2, 100, 5)] }
  | 42, 3 => some { cut := [(10, 100, 5)] }
  | 34, 1 => some { cut := [(3, 1, 4)] }
  | 84, 3 => some { nilsO := [(1, 6, 7)] }
  | 84, 4 => some { live := some [2, 6, 7, 16, 17, 18], keep := some 3 }
  | 87, 3 => some { nilsO := [(1, 6, 7)] }
  | 87, 4 => some { live := some [2, 6, 7, 16, 17, 18], keep := some 3 }
  | 114, 3 => some { nilsO := [(1, 6, 7)] }
  | 114, 4 => some { live := some [2, 6, 7, 16, 17, 18], keep := some 3 }
  | 143, 3 => some { nilsO := [(1, 6, 7)] }
  | 143, 4 => some { live := some [2, 6, 7, 16, 17, 18], keep := some 3 }
  | 145, 3 => some { nilsO := [(1, 6, 7)] }
  | 145, 4 => some { live := some [2, 6, 7, 16, 17, 18], keep := some 3 }
  | 47, 2 => some { nilsO := [(2, 5, 1), (2, 6, 7)] }
  | 85, 2 => some { nilsO := [(2, 5, 1), (2, 6, 7)] }
  | 88, 2 => some { nilsO := [(2, 5, 1), (2, 6, 7)] }
  | 115, 2 => some { nilsO := [(3, 5, 1), (3, 6, 7), (2, 5, 1), (2, 6, 7)] }
  | 115, 17 => some { cut := [(5, 6, 5)] }
  | 97, 1 => some { cut := [(3, 100, 5)] }
  | 97, 3 => some { cut := [(2, 100, 5)] }
  | 92, 2 => some { nils := [(7, 5)], cut := [(3, 100, 5)] }
  | 92, 3 => some { live := some [2, 7, 13, 14, 15], keep := some 1 }
  | 94, 2 => some { nils := [(7, 3)], cut := [(3, 100, 5)] }
  | 94, 3 => some { live := some [2, 7, 13, 14, 15], keep := some 1 }
  | 96, 2 => some { nils := [(7, 13)], cut := [(3, 100, 5)] }
  | 96, 3 => some { live := some [2, 7, 13, 14, 15], keep := some 1 }
  | 116, 2 => some { nils := [(7, 1)], cut := [(3, 100, 5)] }
  | 116, 3 => some { live := some [2, 7, 13, 14, 15], keep := some 1 }
  | 118, 2 => some { nils := [(7, 1)], cut := [(3, 100, 5)] }
  | 118, 3 => some { live := some [2, 7, 13, 14, 15], keep := some 1 }
  | 26, 4 => some { live := some [2, 3, 5], keep := some 2 }
  | 26, 9 => some { live := some [2, 3, 6], keep := some 2 }
  | 26, 15 => some { live := some [2, 3, 6, 7, 8, 9], keep := some 4 }
  | 60, 4 => some { live := some [2, 3, 5], keep := some 2 }
  | 60, 9 => some { live := some [2, 3, 6], keep := some 2 }
  | 62, 4 => some { live := some [0, 1, 12, 13], keep := some 0 }
  | 63, 4 => some { live := some [0, 1, 12, 13], keep := some 0 }
  | 66, 4 => some { live := some [0, 1, 12, 13], keep := some 0 }
  | 65, 4 => some { live := some [0, 1, 2, 15, 16, 17], keep := some 0 }
  | 67, 4 => some { live := some [0, 1, 2, 15, 16, 17], keep := some 0 }
  | _, _ => none
def finN (f : FuncId) : Option Nat := match f with
  | _ => some 4
attribute [simp] finN
def offN (f : FuncId) : Bool := ([4, 5, 6, 7, 8, 17, 18, 19, 21, 22, 23, 25, 27, 44, 48, 49, 50, 52, 53, 57, 58, 59, 83, 90, 98] : List Nat).contains f
def annN : FuncId → AnnF := fun f => if onT f || onM f then annM f else { reg := regN f, fin := finN f, off := offN f }
noncomputable abbrev en := evW Tryz.prog annN
theorem upN {f : FuncId} {args : List AV} {M : Mem} {r : ARes × Mem} (h : em f args M = some r) : en f args M = some r := by
  refine evW_layer (fun f hf => ?_) h
  have h' : (onT f || onM f) = true := by
    unfold annM at hf
    cases ht : onT f with
    | true => rfl
    | false =>
      rw [ht] at hf
      simp at hf
      simp [hf]
  unfold annN
  rw [if_pos h']
theorem annN_at {f : FuncId} (hoff : (onT f || (onM f || offN f)) = false) : annN f = { reg := regN f, fin := finN f } := by
  rw [Bool.or_eq_false_iff, Bool.or_eq_false_iff] at hoff
  unfold annN
  rw [hoff.1, hoff.2.1, hoff.2.2]; rfl
theorem ev_fnN {f : FuncId} {fn : Func} {code : Code} {args : List AV} {M : Mem} {r : ARes × Mem} (hf : Tryz.prog.funcs[f]? = some fn) (hb : fn.body = some code) (h : args.length ≤ fn.ntmps) (hoff : (onT f || (onM f || offN f)) = false)
    (hr : endK Tryz.prog fn.results.toList (finN f) M.length (evCode ⟨Tryz.prog, callW Tryz.prog annN, fn.ntmps, M.length, [], 0, regN f⟩ lpW code ⟨argsEnv 0 args, M⟩) = some r) (hd : hasDefer code = false := by rfl) : en f args M = some r :=
  ev_fn hf hb hd h (by rw [annN_at hoff]; exact hr) (by rw [annN_at hoff])
theorem ev_fnND {f : FuncId} {fn : Func} {code : Code} {args : List AV} {M : Mem} {r : ARes × Mem} (hf : Tryz.prog.funcs[f]? = some fn) (hb : fn.body = some code) (hoff : (onT f || (onM f || offN f)) = false)
    (hr : evBodyD Tryz.prog annN lpW (callW Tryz.prog annN) [] 0 f fn code args M = some r) (hd : hasDefer code = true := by rfl) : en f args M = some r :=
  ev_fnD hf hb hd hr (by rw [annN_at hoff])
end Go.Proofs.Th
open Go Go.Ag
namespace Go.Proofs.Th
attribute [local simp] ec_skip ec_region ec_seq ec_cond ec_block ec_loop ec_exit ec_ret seqK_normal seqK_exit seqK_ret seqK_pan condK_true condK_false blockK_exit blockK_normal blockK_ret blockK_pan regionK_plain regionK_draw eo_nil eo_cons cutS_nil cutOf opK_is wantK_yes wantK_no stepK_ret stepK_pan endK_normal endK_ret endK_pan annotate headS wantedA evOp evOp1 evA Ag.get putT dstOK argsEnv retK resR resAll resOne constAV constCell Ctx.bss evLoad evStore AV.cells intOfAV AV.val AV.vals splice okCell okCells_nil okCells_cons finish AV.lt AV.lts AV.ltss putObj partOf restrT ltT ownOK bsOK bsOKs List.lookup_cons pr_bind pr_pure pr_guard_int pr_guard_str pr_guard_bool pr_add pr_sub pr_mul pr_eql pr_neq pr_lss pr_leq pr_gtr pr_geq pr_seql pr_sneq pr_not pr_neg pr_shl pr_shr pr_quo pr_rem pr_and pr_or pr_xor pr_conv pr_min2 pr_max2 undef callP plA plS plR plO nameP ARes.keys putObj callW callAt callKs inS outS backK reachW pickM renObjs AObj.ren AV.ren AV.rens renss renE posOf backM outK lokAt ARes.ren AV.keys AV.keyss objKeys evFieldAddr evIndexAddr evLen evFill List.range_succ Value.oneCell' evInsert mfind sameKey isKey AObj.lt Value.cells
attribute [local simp] cells_len cells_ok cells_lt trows_lt irows_lt sp1_lt sp7_lt irows_len trows_len cells_0 cells_1 cells_2 cells_3 cells_4 cells_5 cells_6 cellg_0 cellg_1 cellg_2 cellg_3 cellg_4 cellg_5 cellg_6 cells_take cells_keys cells_rens pr_lenstr bstr_size
attribute [local simp] look_mp look_mp2 look_imp look_imp2 lookV lookB intKeys cond_vint cond_vbool bits_i64 bits_u64 bits_u8 bits_i8 bits_i32 bits_u32
attribute [local simp] wrap64_in wrapu64_in wrapu8_in
attribute [local simp] fz_int fz_str fz_bool fz_float fz_nilp fz_tuple fz_nili fz_nilf fz_nilm fz_any fz_nil fz_emp fz_ptr fz_rp fz_ip fz_imp fz_agg fz_tup fz_ifc fz_fn fz_sl fzRow_row fz_so fzMap_mp fz_mp appR_row appN appX_nil appX_emp appX_so appS_some appT_some app_is bsD_some bsB_some bsA_some bs1_is bsZ0_some bsA0_some bs0_is src_sl srcR_row src_so src_str src_nil src_emp rowsOK_nil rowsOK_cons rowsOK_app
attribute [local simp] irows_frz trows_frz sp1_frz sp7_frz cells_frz irows_ok trows_ok sp1_ok sp7_ok bRows_map_frz bRows_ok bRows_lt bRows_length strRows_bstr
attribute [local simp] trows_ta trows_da irows_ta irows_da bRows_ta bRows_da
attribute [local simp] mask_F maskF merge_F mergeF d_fast evFast_is f_nil f_cons fWantK_no fWantK_yes fFp_w fFp_r fClW_t fClR_t fOpW_r fOpR_r fValW_t fValR_t fastX_some clashFree isPureFP fpOf FP.has FP.meets restr Oper.looksAt isAlloc Op.operands Call.operands List.filter_cons rank Nat.testBit reach
section
set_option maxHeartbeats 4000000
attribute [local simp] pr_conv bstr_toList
theorem seq_cut {P : Program} {rs : List ResultVar} {fin : Option Nat} {base : Nat} {c : Ctx} {lp : LoopE} {A : Code} {X : Option (AExit × St)} {r : Option (ARes × Mem)} (Q : Env → Prop) (M : Mem)
    (hX : ∃ T, X = some (.normal, ⟨T, M⟩) ∧ Q T) (h : ∀ T, Q T → endK P rs fin base (evCode c lp A ⟨T, M⟩) = r) : endK P rs fin base (seqK c lp A X) = r := by
  obtain ⟨T, rfl, hQ⟩ := hX
  exact h T hQ
theorem m13 (e : Int) : en 13 [.v (.int .i64 e)] [] = some (.ret (.v (.int .i64 e)), []) := by
  refine ev_fnN Tryz.func13 rfl (Nat.le_of_ble_eq_true rfl) rfl ?_
  simp [regN, Tryz.f13]
set_option maxRecDepth 20000 in
set_option maxHeartbeats 8000000 in
theorem m32 (l : List Int) (s : List (List AV)) (hl : l.length ≤ 1000000) : en 32 [.sl (irows l) s] [] = some (.ret (.v (.bool (l.all nat31))), []) := by
  refine ev_fnN Tryz.func32 rfl (Nat.le_of_ble_eq_true rfl) rfl ?_
  simp [regN, Tryz.f32]
  generalize hres : runLoop _ _ _ _ = res
  unfold runLoop at hres
  generalize hf : evCode _ _ _ = f at hres
  obtain ⟨ex, T', M', h1, -, h2⟩ := lpW_listR hres l
    (fun d r T M => M = [] ∧ l.all nat31 = r.all nat31 ∧ T.lookup 0 = some (.sl (irows l) s) ∧ T.lookup 3 = some (.v (.int .i64 d.length)))
    (fun ex T M => M = [] ∧ ((ex = .exit 0 ∧ l.all nat31 = true) ∨ (ex = .ret ∧ l.all nat31 = false ∧ T.lookup 2 = some (.v (.bool false)))))
    (by simp)
    (by
      rintro T M ⟨rfl, hx, t0, t3⟩
      exact ⟨.exit 0, _, _, by rw [← hf]; simp [regN, t0, t3]; (first | rfl | exact ⟨rfl, rfl⟩ | exact ⟨rfl, rfl, rfl⟩), by simp, rfl, .inl ⟨rfl, by rw [hx]; rfl⟩⟩)
    (by
      rintro d x r T M hl' ⟨rfl, hx, t0, t3⟩
      obtain ⟨hz, hj⟩ := app_get hl'
      have hlt : (d.length : Int) < (l.length : Int) := by omega
      have e3 : IntKind.i64.wrap ((d.length : Int) + 1) = (d.length : Int) + 1 := wrap64_in (by omega) (by omega)
      by_cases h0 : x < 0
      · have hn : nat31 x = false := by have : ¬ 0 ≤ x := by omega
                                        simp [nat31, this]
        exact .inr ⟨.ret, _, _, by rw [← hf]; simp [regN, t0, t3, hlt, irows_get hz, h0]; (first | rfl | exact ⟨rfl, rfl⟩ | exact ⟨rfl, rfl, rfl⟩), by simp, rfl, .inr ⟨rfl, by rw [hx]; simp [hn], by simp⟩⟩
      · by_cases h1 : 2147483647 < x
        · have hn : nat31 x = false := by have : ¬ x ≤ 2147483647 := by omega
                                          simp [nat31, this]
          exact .inr ⟨.ret, _, _, by rw [← hf]; simp [regN, t0, t3, hlt, irows_get hz, h0, h1]; (first | rfl | exact ⟨rfl, rfl⟩ | exact ⟨rfl, rfl, rfl⟩), by simp, rfl, .inr ⟨rfl, by rw [hx]; simp [hn], by simp⟩⟩
        · have hn : nat31 x = true := by have : x ≤ 2147483647 := by omega
                                         have : 0 ≤ x := by omega
                                         simp [nat31, *]
          exact .inl ⟨_, _, by rw [← hf]; simp [regN, t0, t3, hlt, irows_get hz, h0, h1, e3]; (first | rfl | exact ⟨rfl, rfl⟩ | exact ⟨rfl, rfl, rfl⟩), rfl, by rw [hx]; simp [hn], by simp [t0], by simp⟩)
  subst h1
  clear hf hres
  rcases h2 with ⟨rfl, ⟨rfl, h2⟩ | ⟨rfl, h2, t2⟩⟩
  · simp [regN, h2]
  · simp [regN, h2, t2]
theorem encOK_is (e : Int) : encOK e = (e == 0 || (e == 3 || (decide (5 ≤ e) && decide (e ≤ 9)))) := by
  rw [Bool.eq_iff_iff]
  simp [encOK]
  omega
theorem m33 (e : Int) : en 33 [.v (.int .i64 e)] [] = some (.ret (.v (.bool (encOK e))), []) := by
  rw [encOK_is]
  refine ev_fnN Tryz.func33 rfl (Nat.le_of_ble_eq_true rfl) rfl ?_
  cases e0 : (e == 0)
  · cases e3 : (e == 3)
    · by_cases e5 : 5 ≤ e
      · simp [regN, Tryz.f33, e0, e3, e5]
      · simp [regN, Tryz.f33, e0, e3, e5]
    · simp [regN, Tryz.f33, e0, e3]
  · simp [regN, Tryz.f33, e0]
theorem m34 (s : Sts) : en 34 [.agg s.cells] [] = some (.ret (.v (.bool s.ok)), []) := by
  obtain ⟨nulls, has, least, most⟩ := s
  have h32 := m32 [nulls] [] (by simp)
  simp [irows] at h32
  refine ev_fnN Tryz.func34 rfl (Nat.le_of_ble_eq_true rfl) rfl ?_
  cases h1 : nat31 nulls with
  | false => rw [h1] at h32; simp [regN, Tryz.f34, Sts.cells, Sts.ok, h1, h32, evBuildSlice, zrep, chop, cutS, frzS, frzM, frzObj]
  | true =>
    rw [h1] at h32
    by_cases hc : has = true ∨ (least = [] ∧ most = [])
    · by_cases h2 : least.length ≤ 1048576
      · have h2' : (least.length : Int) ≤ 1048576 := by omega
        rcases hc with rfl | ⟨rfl, rfl⟩
        · simp [regN, Tryz.f34, Sts.cells, Sts.ok, h1, h32, h2, h2', evBuildSlice, zrep, chop, cutS, frzS, frzM, frzObj]
          omega
        · cases has <;> simp [regN, Tryz.f34, Sts.cells, Sts.ok, h1, h32, evBuildSlice, zrep, chop, cutS, frzS, frzM, frzObj, empty_toList']
      · have h2' : ¬ (least.length : Int) ≤ 1048576 := by omega
        rcases hc with rfl | ⟨rfl, rfl⟩
        · simp [regN, Tryz.f34, Sts.cells, Sts.ok, h1, h32, h2, h2', evBuildSlice, zrep, chop, cutS, frzS, frzM, frzObj]
        · simp at h2
    · obtain ⟨ha, hb⟩ : has = false ∧ ¬ (least = [] ∧ most = []) := by
        refine ⟨by cases has; rfl; exact absurd (.inl rfl) hc, fun h => hc (.inr h)⟩
      subst ha
      by_cases e1 : least = []
      · subst e1
        have e2 : most ≠ [] := fun e => hb ⟨rfl, e⟩
        have g := str_emp e2
        simp [regN, Tryz.f34, Sts.cells, Sts.ok, h1, h32, g, e2, evBuildSlice, zrep, chop, cutS, frzS, frzM, frzObj, empty_toList']
      · have g := str_emp e1
        simp [regN, Tryz.f34, Sts.cells, Sts.ok, h1, h32, g, e1, evBuildSlice, zrep, chop, cutS, frzS, frzM, frzObj, empty_toList']
end
section
set_option maxHeartbeats 4000000
attribute [local simp] pr_conv bstr_toList
theorem lookup_mapv (f : AV → AV) (t : Tmp) : ∀ T : Env, (T.map fun x => (x.1, f x.2)).lookup t = (T.lookup t).map f
  | [] => rfl
  | (u, a) :: T => by
    simp only [List.map_cons, List.lookup_cons]
    split
    · rfl
    · exact lookup_mapv f t T
def Hdr.seven (h : Hdr) : List Int := [h.raw, h.packed, h.values, h.nulls, h.rows, h.defb, h.repb]
def Hdr.may (h : Hdr) : Bool := (h.kind == 0 || (h.kind == 2 || h.kind == 3)) && (h.seven.all nat31 && (encOK h.enc && (h.st.ok && ((h.kind == 3 || h.bare) && (h.kind != 2 || h.st.zero)))))
theorem may_ok' (h : Hdr) : h.may = h.ok := by
  obtain ⟨kind, raw, packed, sum, values, enc, nulls, rows, defb, repb, sq, ⟨n, a, l, m⟩⟩ := h
  by_cases k0 : kind = 0
  · subst k0
    rw [Bool.eq_iff_iff]
    simp [Hdr.may, Hdr.ok, Hdr.seven, Hdr.bare]
    constructor
    · rintro ⟨⟨h1, h2, h3, _⟩, h4, h5, h6⟩
      exact ⟨⟨h1, h2, h3, h4⟩, h6, h5⟩
    · rintro ⟨⟨h1, h2, h3, h4⟩, ⟨⟨rfl, rfl, rfl, rfl⟩, rfl⟩, h5⟩
      exact ⟨⟨h1, h2, h3, rfl, rfl, rfl, rfl⟩, h4, h5, ⟨rfl, rfl, rfl, rfl⟩, rfl⟩
  by_cases k2 : kind = 2
  · subst k2
    rw [Bool.eq_iff_iff]
    simp [Hdr.may, Hdr.ok, Hdr.seven, Hdr.bare, Sts.zero, Sts.ok]
    constructor
    · rintro ⟨⟨h1, h2, h3, _⟩, h4, _, h6, h7⟩
      exact ⟨⟨h1, h2, h3, h4⟩, h6, h7⟩
    · rintro ⟨⟨h1, h2, h3, h4⟩, ⟨⟨rfl, rfl, rfl, rfl⟩, rfl⟩, rfl, rfl, rfl, rfl⟩
      exact ⟨⟨h1, h2, h3, rfl, rfl, rfl, rfl⟩, h4, ⟨rfl, ⟨by simp, by simp⟩, .inr ⟨rfl, rfl⟩⟩, ⟨⟨rfl, rfl, rfl, rfl⟩, rfl⟩, rfl, rfl, rfl, rfl⟩
  by_cases k3 : kind = 3
  · subst k3
    rw [Bool.eq_iff_iff]
    simp [Hdr.may, Hdr.ok, Hdr.seven]
    constructor
    · rintro ⟨⟨h1, h2, h3, h4, h5, h6, h7⟩, h8, h9⟩
      exact ⟨⟨h1, h2, h3, h8⟩, ⟨h4, h5, h6, h7⟩, h9⟩
    · rintro ⟨⟨h1, h2, h3, h8⟩, ⟨h4, h5, h6, h7⟩, h9⟩
      exact ⟨⟨h1, h2, h3, h4, h5, h6, h7⟩, h8, h9⟩
  · simp [Hdr.may, Hdr.ok, k0, k2, k3]
theorem emp_beq2 (x : List UInt8) : (bstr x == ByteArray.empty) = (x == []) := bstr_beq x []
set_option maxRecDepth 20000 in
set_option maxHeartbeats 16000000 in
theorem m12 (h : Hdr) : en 12 [.agg h.cells] [] = some (.ret (.v (.bool h.ok)), []) := by
  rw [← may_ok']
  have h32 := m32 h.seven [] (by simp [Hdr.seven])
  obtain ⟨A, hA⟩ : ∃ A, h.seven.all nat31 = A := ⟨_, rfl⟩
  rw [hA] at h32
  simp [Hdr.seven, irows] at h32
  have h33 := m33 h.enc
  have h34 := m34 h.st
  simp [Sts.cells] at h34
  refine ev_fnN Tryz.func12 rfl (Nat.le_of_ble_eq_true rfl) rfl ?_
  simp [regN, Tryz.f12, Hdr.cells]
  refine seq_cut (fun T => T.lookup 1 = some (.ptr 0 0) ∧ T.lookup 3 = some (.v (.bool h.bare))) [.cells h.cells] ?_ ?_
  · cases e1 : (h.nulls == 0) with
    | false => exact ⟨_, by simp [regN, Hdr.cells, e1]; (first | rfl | exact ⟨rfl, rfl⟩ | exact ⟨rfl, rfl, rfl⟩), by simp, by simp [Hdr.bare, e1]⟩
    | true =>
    cases e2 : (h.rows == 0) with
    | false => exact ⟨_, by simp [regN, Hdr.cells, e1, e2]; (first | rfl | exact ⟨rfl, rfl⟩ | exact ⟨rfl, rfl, rfl⟩), by simp, by simp [Hdr.bare, e1, e2]⟩
    | true =>
    cases e3 : (h.defb == 0) with
    | false => exact ⟨_, by simp [regN, Hdr.cells, e1, e2, e3]; (first | rfl | exact ⟨rfl, rfl⟩ | exact ⟨rfl, rfl, rfl⟩), by simp, by simp [Hdr.bare, e1, e2, e3]⟩
    | true =>
    cases e4 : (h.repb == 0) with
    | false => exact ⟨_, by simp [regN, Hdr.cells, e1, e2, e3, e4]; (first | rfl | exact ⟨rfl, rfl⟩ | exact ⟨rfl, rfl, rfl⟩), by simp, by simp [Hdr.bare, e1, e2, e3, e4]⟩
    | true => exact ⟨_, by simp [regN, Hdr.cells, e1, e2, e3, e4]; (first | rfl | exact ⟨rfl, rfl⟩ | exact ⟨rfl, rfl, rfl⟩), by simp, by simp [Hdr.bare, e1, e2, e3, e4]⟩
  rintro T ⟨t1, t3⟩
  by_cases kx : h.kind ≠ 0 ∧ h.kind ≠ 2 ∧ h.kind ≠ 3
  · obtain ⟨k0, k2, k3⟩ := kx
    have g0 : (h.kind != 0) = true := by simp [k0]
    have g2 : (h.kind != 2) = true := by simp [k2]
    have g3 : (h.kind != 3) = true := by simp [k3]
    simp [regN, t1, t3, Hdr.cells, g0, g2, g3, Hdr.may, k0, k2, k3]
  have hk : h.kind = 0 ∨ h.kind = 2 ∨ h.kind = 3 := by omega
  rcases hk with k | k | k
  · skip
    cases A with
    | false =>
      simp [regN, t1, t3, lookup_mapv, Hdr.cells, h32, h33, h34, evBuildSlice, zrep, chop, cutS, frzS, frzM, frzObj, Hdr.may, pr_eql26, pr_guard26, hA, emp_beq2, Sts.zero, k]
    | true =>
    cases hb : encOK h.enc with
    | false =>
      simp [regN, t1, t3, lookup_mapv, Hdr.cells, h32, h33, h34, evBuildSlice, zrep, chop, cutS, frzS, frzM, frzObj, Hdr.may, pr_eql26, pr_guard26, hA, emp_beq2, Sts.zero, k, hb]
    | true =>
    cases hc : h.st.ok with
    | false =>
      simp [regN, t1, t3, lookup_mapv, Hdr.cells, h32, h33, h34, evBuildSlice, zrep, chop, cutS, frzS, frzM, frzObj, Hdr.may, pr_eql26, pr_guard26, hA, emp_beq2, Sts.zero, k, hb, hc]
    | true =>
    cases hd : h.bare with
    | false =>
      simp [regN, t1, t3, lookup_mapv, Hdr.cells, h32, h33, h34, evBuildSlice, zrep, chop, cutS, frzS, frzM, frzObj, Hdr.may, pr_eql26, pr_guard26, hA, emp_beq2, Sts.zero, k, hb, hc, hd]
    | true =>
      simp [regN, t1, t3, lookup_mapv, Hdr.cells, h32, h33, h34, evBuildSlice, zrep, chop, cutS, frzS, frzM, frzObj, Hdr.may, pr_eql26, pr_guard26, hA, emp_beq2, Sts.zero, k, hb, hc, hd]
  · skip
    cases A with
    | false =>
      simp [regN, t1, t3, lookup_mapv, Hdr.cells, h32, h33, h34, evBuildSlice, zrep, chop, cutS, frzS, frzM, frzObj, Hdr.may, pr_eql26, pr_guard26, hA, emp_beq2, Sts.zero, k]
    | true =>
    cases hb : encOK h.enc with
    | false =>
      simp [regN, t1, t3, lookup_mapv, Hdr.cells, h32, h33, h34, evBuildSlice, zrep, chop, cutS, frzS, frzM, frzObj, Hdr.may, pr_eql26, pr_guard26, hA, emp_beq2, Sts.zero, k, hb]
    | true =>
    cases hc : h.st.ok with
    | false =>
      simp [regN, t1, t3, lookup_mapv, Hdr.cells, h32, h33, h34, evBuildSlice, zrep, chop, cutS, frzS, frzM, frzObj, Hdr.may, pr_eql26, pr_guard26, hA, emp_beq2, Sts.zero, k, hb, hc]
    | true =>
    cases hd : h.bare with
    | false =>
      simp [regN, t1, t3, lookup_mapv, Hdr.cells, h32, h33, h34, evBuildSlice, zrep, chop, cutS, frzS, frzM, frzObj, Hdr.may, pr_eql26, pr_guard26, hA, emp_beq2, Sts.zero, k, hb, hc, hd]
    | true =>
      simp [regN, t1, t3, lookup_mapv, Hdr.cells, h32, h33, h34, evBuildSlice, zrep, chop, cutS, frzS, frzM, frzObj, Hdr.may, pr_eql26, pr_guard26, hA, emp_beq2, Sts.zero, k, hb, hc, hd]
  · skip
    cases A with
    | false =>
      simp [regN, t1, t3, lookup_mapv, Hdr.cells, h32, h33, h34, evBuildSlice, zrep, chop, cutS, frzS, frzM, frzObj, Hdr.may, pr_eql26, pr_guard26, hA, emp_beq2, Sts.zero, k]
    | true =>
    cases hb : encOK h.enc with
    | false =>
      simp [regN, t1, t3, lookup_mapv, Hdr.cells, h32, h33, h34, evBuildSlice, zrep, chop, cutS, frzS, frzM, frzObj, Hdr.may, pr_eql26, pr_guard26, hA, emp_beq2, Sts.zero, k, hb]
    | true =>
    cases hc : h.st.ok with
    | false =>
      simp [regN, t1, t3, lookup_mapv, Hdr.cells, h32, h33, h34, evBuildSlice, zrep, chop, cutS, frzS, frzM, frzObj, Hdr.may, pr_eql26, pr_guard26, hA, emp_beq2, Sts.zero, k, hb, hc]
    | true =>
    cases hd : h.bare with
    | false =>
      simp [regN, t1, t3, lookup_mapv, Hdr.cells, h32, h33, h34, evBuildSlice, zrep, chop, cutS, frzS, frzM, frzObj, Hdr.may, pr_eql26, pr_guard26, hA, emp_beq2, Sts.zero, k, hb, hc, hd]
    | true =>
      simp [regN, t1, t3, lookup_mapv, Hdr.cells, h32, h33, h34, evBuildSlice, zrep, chop, cutS, frzS, frzM, frzObj, Hdr.may, pr_eql26, pr_guard26, hA, emp_beq2, Sts.zero, k, hb, hc, hd]
end
section
set_option maxHeartbeats 4000000
attribute [local simp] pr_conv bstr_toList
def withT (x : Th) (id : Int) (y : Th) : Th := .mk 12 x.key x.elem x.i x.text (x.ids ++ [id]) (x.list ++ [y])
theorem m39 (n : Int) : en 39 [.v (.int .i64 n)] [] = some (.ret (.agg ((numT 5 n).cells false)), []) := by
  refine ev_fnN Tryz.func39 rfl (Nat.le_of_ble_eq_true rfl) rfl ?_
  simp [regN, Tryz.f39, numT_cells]
theorem m51 (n : Int) : en 51 [.v (.int .i64 n)] [] = some (.ret (.agg ((numT 6 n).cells false)), []) := by
  refine ev_fnN Tryz.func51 rfl (Nat.le_of_ble_eq_true rfl) rfl ?_
  simp [regN, Tryz.f51, numT_cells]
theorem m54 (s : List UInt8) : en 54 [.v (.string (bstr s))] [] = some (.ret (.agg ((txtT s).cells false)), []) := by
  refine ev_fnN Tryz.func54 rfl (Nat.le_of_ble_eq_true rfl) rfl ?_
  simp [regN, Tryz.f54, txtT_cells]
set_option maxRecDepth 20000 in
set_option maxHeartbeats 8000000 in
theorem m38 {x y : Th} {id : Int} {cs : List AV} (h1 : cs.length = 7) (h2 : okCells cs = true) (h3 : AV.lts 0 cs = true) (hf : ∀ M b n, cs.map (frz M b (n + 1)) = y.cells false) (hi : x.ids.length ≤ 1000000) (hl : x.list.length ≤ 1000000) :
    en 38 [.agg (x.cells false), .v (.int .i64 id), .agg cs] [] = some (.ret (.agg ((withT x id y).cells false)), []) := by
  obtain ⟨k, ke, e, i, t, ids, l⟩ := x
  simp [Th.ids, Th.list] at hi hl
  have hb := bef_38_3
  simp [Tryz.f38, opsOf] at hb
  have h3' : ∀ n, AV.lts n cs = true := fun n => AV.lts_mono (Nat.zero_le n) _ h3
  have e1 : ids.length * 8 ≤ 140737488355328 := by omega
  have e2 : (ids.length + 1) * 8 ≤ 140737488355328 := by omega
  have e3 : l.length * 96 ≤ 140737488355328 := by omega
  have e4 : (l.length + 1) * 96 ≤ 140737488355328 := by omega
  have e5 : cs.take 7 = cs := List.take_of_length_le (by omega)
  have hk : AV.keyss cs = [] := AV.keyss_of _ h3
  have hrs : ∀ π, AV.rens π cs = some cs := fun π => AV.rens_of π _ h3
  refine ev_fnN Tryz.func38 rfl (Nat.le_of_ble_eq_true rfl) rfl ?_
  simp only [Th.cells]
  simp [regN, Tryz.f38, hb, h1, h2, h3', e1, e2, e3, e4, e5, hk, hrs, hf, withT, Th.cells, Th.key, Th.elem, Th.i, Th.text, Th.ids, Th.list, sp1, sp7]
  have q1 : irows ids ++ [[AV.v (.int .i64 id)]] = irows (ids ++ [id]) := irows_a1 ids id
  have q2 : trows false l ++ [Th.cells false y] = trows false (l ++ [y]) := by simp [trows_map]
  have l1 : (irows (ids ++ [id])).length = ids.length + 1 := by simp [irows_len]
  have l2 : (trows false (l ++ [y])).length = l.length + 1 := by simp [trows_len]
  rw [q1, q2, List.take_of_length_le (Nat.le_of_eq l1), List.drop_eq_nil_of_le (Nat.le_of_eq l1), List.take_of_length_le (Nat.le_of_eq l2), List.drop_eq_nil_of_le (Nat.le_of_eq l2)]
  simp [irows_lt, trows_lt, AV.ltss]
theorem frz_cells (y : Th) (M : Mem) (b n : Nat) : (y.cells false).map (frz M b (n + 1)) = y.cells false := cells_frz M b false (n + 1) y
theorem m38_c {x y : Th} {id : Int} (hi : x.ids.length ≤ 1000000) (hl : x.list.length ≤ 1000000) :
    en 38 [.agg (x.cells false), .v (.int .i64 id), .agg (y.cells false)] [] = some (.ret (.agg ((withT x id y).cells false)), []) :=
  m38 (cells_len false y) (cells_ok false y) (cells_lt false 0 y) (frz_cells y) hi hl
set_option maxRecDepth 20000 in
set_option maxHeartbeats 8000000 in
theorem m38_z {y : Th} {id : Int} : en 38 [.agg [.v (.int .i64 0), .v (.int .i64 0), .v (.int .i64 0), .v (.int .i64 0), .v (.string ByteArray.empty), .v (.slice none 0 0), .v (.slice none 0 0)], .v (.int .i64 id), .agg (y.cells false)] [] = some (.ret (.agg ((strT [id] [y]).cells false)), []) := by
  have hb := bef_38_3
  simp [Tryz.f38, opsOf] at hb
  refine ev_fnN Tryz.func38 rfl (Nat.le_of_ble_eq_true rfl) rfl ?_
  simp [regN, Tryz.f38, hb, strT, Th.cells, irows, trows, sp1, sp7]
theorem m38_s {ids : List Int} {l : List Th} {y : Th} {id : Int} (hi : ids.length ≤ 1000000) (hl : l.length ≤ 1000000) :
    en 38 [.agg ((strT ids l).cells false), .v (.int .i64 id), .agg (y.cells false)] [] = some (.ret (.agg ((strT (ids ++ [id]) (l ++ [y])).cells false)), []) :=
  m38_c (x := strT ids l) hi hl
set_option maxRecDepth 20000 in
set_option maxHeartbeats 8000000 in
theorem m40 (s : Sts) : en 40 [.agg s.cells] [] = some (.ret (.agg ((stsT s).cells false)), []) := by
  obtain ⟨nulls, has, least, most⟩ := s
  have hb3 := bef_40_3
  have hb4 := bef_40_4
  simp [Tryz.f40, opsOf] at hb3 hb4
  have q1 := m38_s (ids := [3]) (l := [numT 6 nulls]) (y := txtT most) (id := 5) (by simp) (by simp)
  have q2 := m38_s (ids := [3, 5]) (l := [numT 6 nulls, txtT most]) (y := txtT least) (id := 6) (by simp) (by simp)
  simp at q1 q2
  refine ev_fnN Tryz.func40 rfl (Nat.le_of_ble_eq_true rfl) rfl ?_
  cases has with
  | true => simp [regN, Tryz.f40, Sts.cells, m51, m54, m38_z, q1, q2, hb3, hb4, stsT]; rfl
  | false => simp [regN, Tryz.f40, Sts.cells, m51, m54, m38_z, hb3, hb4, stsT]; rfl
theorem m38_b {ids : List Int} {l : List Th} {i : Int} {b : Bool} {id : Int} (hb : i = if b then 1 else 0) (hi : ids.length ≤ 1000000) (hl : l.length ≤ 1000000) :
    en 38 [.agg ((strT ids l).cells false), .v (.int .i64 id), .agg [.v (.int .i64 1), .v (.int .i64 0), .v (.int .i64 0), .v (.int .i64 i), .v (.string ByteArray.empty), .v (.slice none 0 0), .v (.slice none 0 0)]] [] = some (.ret (.agg ((strT (ids ++ [id]) (l ++ [boolT b])).cells false)), []) := by
  subst hb
  refine m38 (x := strT ids l) (y := boolT b) rfl (by simp) (by simp [AV.lts, AV.lt]) ?_ hi hl
  intro M bb n
  simp [boolT, Th.cells, irows, trows, sp1, sp7]
theorem i32_of {x : Int} (h0 : 0 ≤ x) (h1 : x ≤ 4294967295) : IntKind.i32.wrap x = if 2147483647 < x then x - 4294967296 else x := by
  have h := IntKind.wrap_i32 x
  split <;> omega
set_option maxRecDepth 20000 in
set_option maxHeartbeats 16000000 in
theorem m15 (h : Hdr) (hs : 0 ≤ h.sum ∧ h.sum ≤ 4294967295) (hk : h.kind = 0 ∨ h.kind = 2 ∨ h.kind = 3) : en 15 [.agg h.cells] [] = some (.ret (.agg ((pageT h).cells false)), []) := by
  obtain ⟨kind, raw, packed, sum, values, enc, nulls, rows, defb, repb, sq, st⟩ := h
  simp at hs hk
  have h40 := m40 st
  simp [Sts.cells] at h40
  have hb5 := bef_15_5
  have hb6 := bef_15_6
  have hb7 := bef_15_7
  have hb11 := bef_15_11
  have hb12 := bef_15_12
  have hb13 := bef_15_13
  have hb14 := bef_15_14
  have hb16 := bef_15_16
  have hb17 := bef_15_17
  have hb18 := bef_15_18
  have hb19 := bef_15_19
  have hb20 := bef_15_20
  have hb21 := bef_15_21
  have hb26 := bef_15_26
  simp [Tryz.f15, opsOf] at hb5 hb6 hb7 hb11 hb12 hb13 hb14 hb16 hb17 hb18 hb19 hb20 hb21 hb26
  have w1 : IntKind.i64.wrap sum = sum := wrap64_in (by omega) (by omega)
  have w2 : IntKind.i64.wrap (sum - 4294967296) = sum - 4294967296 := wrap64_in (by omega) (by omega)
  have w3 := i32_of hs.1 hs.2
  refine ev_fnN Tryz.func15 rfl (Nat.le_of_ble_eq_true rfl) rfl ?_
  by_cases hgt : 2147483647 < sum
  · rw [if_pos hgt] at w3
    rcases hk with rfl | rfl | rfl
    · skip
      simp [regN, Tryz.f15, Hdr.cells, m39, h40, m38_z, m38_s, hb5, hb6, hb7, hgt, w1, w2, hb11, hb12, hb13, hb14]
      simp [pageT, innerT, w3]; rfl
    · skip
      simp [regN, Tryz.f15, Hdr.cells, m39, h40, m38_z, m38_s, hb5, hb6, hb7, hgt, w1, w2, hb16]
      simp [pageT, innerT, w3]; rfl
    · cases sq with
      | true =>
        have hbb := fun ids l id h1 h2 => m38_b (ids := ids) (l := l) (i := 1) (b := true) (id := id) rfl h1 h2
        simp [regN, Tryz.f15, Hdr.cells, m39, h40, m38_z, m38_s, hb5, hb6, hb7, hgt, w1, w2, hb17, hb18, hb19, hb20, hb21, hb26, hbb]
        simp [pageT, innerT, w3]; rfl
      | false =>
        have hbb := fun ids l id h1 h2 => m38_b (ids := ids) (l := l) (i := 0) (b := false) (id := id) rfl h1 h2
        simp [regN, Tryz.f15, Hdr.cells, m39, h40, m38_z, m38_s, hb5, hb6, hb7, hgt, w1, w2, hb17, hb18, hb19, hb20, hb21, hb26, hbb]
        simp [pageT, innerT, w3]; rfl
  · rw [if_neg hgt] at w3
    rcases hk with rfl | rfl | rfl
    · skip
      simp [regN, Tryz.f15, Hdr.cells, m39, h40, m38_z, m38_s, hb5, hb6, hb7, hgt, w1, hb11, hb12, hb13, hb14]
      simp [pageT, innerT, w3]; rfl
    · skip
      simp [regN, Tryz.f15, Hdr.cells, m39, h40, m38_z, m38_s, hb5, hb6, hb7, hgt, w1, hb16]
      simp [pageT, innerT, w3]; rfl
    · cases sq with
      | true =>
        have hbb := fun ids l id h1 h2 => m38_b (ids := ids) (l := l) (i := 1) (b := true) (id := id) rfl h1 h2
        simp [regN, Tryz.f15, Hdr.cells, m39, h40, m38_z, m38_s, hb5, hb6, hb7, hgt, w1, hb17, hb18, hb19, hb20, hb21, hb26, hbb]
        simp [pageT, innerT, w3]; rfl
      | false =>
        have hbb := fun ids l id h1 h2 => m38_b (ids := ids) (l := l) (i := 0) (b := false) (id := id) rfl h1 h2
        simp [regN, Tryz.f15, Hdr.cells, m39, h40, m38_z, m38_s, hb5, hb6, hb7, hgt, w1, hb17, hb18, hb19, hb20, hb21, hb26, hbb]
        simp [pageT, innerT, w3]; rfl
end
end Go.Proofs.Th
