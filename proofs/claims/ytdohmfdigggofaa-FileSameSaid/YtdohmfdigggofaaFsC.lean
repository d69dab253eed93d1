import Derived.Test.YtdohmfdigggofaaFsB
set_option linter.unusedSimpArgs false
set_option linter.unusedVariables false
open Go Go.Ag
namespace Go.Proofs.Fs
attribute [local simp] ec_skip ec_region ec_seq ec_cond ec_block ec_loop ec_exit ec_ret seqK_normal seqK_exit seqK_ret seqK_pan condK_true condK_false blockK_exit blockK_normal blockK_ret blockK_pan regionK_plain regionK_draw eo_nil eo_cons wantK_yes wantK_no stepK_ret stepK_pan endK_normal endK_ret endK_pan annotate wantedA evOp evOp1 evA Ag.get putT dstOK argsEnv retK resR resAll resOne constAV constCell Ctx.bss evLoad evStore AV.cells intOfAV AV.val AV.vals splice okCell okCells_nil okCells_cons finish AV.strip AV.strips AV.lt AV.lts AV.ltss
  mem_get mem_get0 mem_set mem_set0 mem_take mem_take0 putObj_new putObj_app partOf restrT ltT ownOK_self ownOK_add List.lookup_cons pr_bind pr_pure pr_guard_int pr_guard_str pr_guard_bool pr_add pr_sub pr_mul pr_eql pr_neq pr_lss pr_leq pr_gtr pr_geq pr_seql pr_sneq pr_not undef






theorem und45 : Try.prog.underlying 45 = some (.struct #[{ name := "Kind", type := 38, offset := 0, embedded := false, tag := "", pkgPath := "", byteOffset := 0 },
          { name := "Int", type := 2, offset := 1, embedded := false, tag := "", pkgPath := "", byteOffset := 8 },
          { name := "Text", type := 9, offset := 2, embedded := false, tag := "", pkgPath := "", byteOffset := 16 }]) := by kernel_rfl
theorem und38 : Try.prog.underlying 38 = some (.int .i64) := by kernel_rfl
theorem und2 : Try.prog.underlying 2 = some (.int .i64) := by kernel_rfl
theorem und9 : Try.prog.underlying 9 = some .string := by kernel_rfl
theorem guard45 : Try.prog.eqGuardType Try.prog.depth 45 = false := by kernel_rfl
theorem held45 : Try.prog.stoodInHeld 45 = false := by kernel_rfl

theorem pr_isAgg {P : Program} {t : TypeId} {d : TypeDesc} (h : P.underlying t = some d) : pureRun P (isAgg t) = some (isRow d) := by
  unfold isAgg
  rw [pr_bind, pr_under P t h]
  cases d <;> rfl
theorem pr_part1 {P : Program} {t : TypeId} {d : TypeDesc} (h : P.underlying t = some d) (hd : isRow d = false) (cs : Array Value) (off : Nat) (v : Value) (hv : cs[off]? = some v) : pureRun P (part t cs off) = some v := by
  unfold part
  simp only [pr_bind, pr_isAgg h, hd, Option.bind_some, Bool.false_eq_true, if_false, hv, pr_pure]
theorem eqIn_int (d : Nat) {P : Program} {t : TypeId} {k : IntKind} (h : P.underlying t = some (.int k)) (a b : Int) : pureRun P (Op.equalIn (d + 1) t (.int k a) (.int k b)) = some (a == b) := by
  rw [Op.equalIn]
  simp only [pr_bind, pr_under P t h, Option.bind_some, if_true, pr_pure]
theorem eqIn_str (d : Nat) {P : Program} {t : TypeId} (h : P.underlying t = some .string) (a b : ByteArray) : pureRun P (Op.equalIn (d + 1) t (.string a) (.string b)) = some (a == b) := by
  rw [Op.equalIn]
  simp only [pr_bind, pr_under P t h, Option.bind_some, pr_pure]

theorem pr_datum (k i k' i' : Int) (t t' : ByteArray) : pureRun Try.prog (Op.equal 45 (.agg #[.int .i64 k, .int .i64 i, .string t]) (.agg #[.int .i64 k', .int .i64 i', .string t'])) = some (k == k' && (i == i' && t == t')) := by
  show pureRun Try.prog (Op.equalIn (9998 + 1 + 1) 45 _ _) = _
  rw [Op.equalIn]
  simp only [pr_bind, pr_under _ 45 und45, Option.bind_some, pr_program, held45, Bool.false_eq_true, if_false]
  cases e1 : (k == k') <;> cases e2 : (i == i') <;> cases e3 : (t == t') <;>
  simp [pr_bind, pr_pure, pr_part1 und38 rfl, pr_part1 und2 rfl, pr_part1 und9 rfl, eqIn_int 9998 und38, eqIn_int 9998 und2, eqIn_str 9998 und9, e1, e2, e3]
theorem pr_guard45 (op : BinOp) (x y : Operand) (a b : Array Value) : pureRun Try.prog (eqGuard op 45 x y (.agg a) (.agg b)) = some () := by
  cases op <;> simp [eqGuard, pr_bind, pr_program, guard45, pr_pure]
theorem pr_deql (k i k' i' : Int) (t t' : ByteArray) : pureRun Try.prog (binOp .eql 45 (.agg #[.int .i64 k, .int .i64 i, .string t]) (.agg #[.int .i64 k', .int .i64 i', .string t'])) = some (.bool (k == k' && (i == i' && t == t'))) := by
  simp only [binOp, pr_bind, pr_datum, Option.bind_some, pr_pure]
theorem pr_dneq (k i k' i' : Int) (t t' : ByteArray) : pureRun Try.prog (binOp .neq 45 (.agg #[.int .i64 k, .int .i64 i, .string t]) (.agg #[.int .i64 k', .int .i64 i', .string t'])) = some (.bool !(k == k' && (i == i' && t == t'))) := by
  simp only [binOp, pr_bind, pr_datum, Option.bind_some, pr_pure]

mutual
def Val.cells : Val → List AV
  | .mk k i t fs => [.v (.int .i64 k), .v (.int .i64 i), .v (.string t), .sl none 1 (frows fs)]
def vrows : List Val → List (List AV)
  | [] => []
  | x :: xs => x.cells :: vrows xs
def frows : List (List Val) → List (List AV)
  | [] => []
  | x :: xs => [.sl none 4 (vrows x)] :: frows xs
end
mutual
def Val.eq : Val → Val → Bool
  | .mk k i t fs, .mk k' i' t' fs' => (k == k' && (i == i' && t == t')) && feqs fs fs'
def veqs : List Val → List Val → Bool
  | [], [] => true
  | x :: xs, y :: ys => x.eq y && veqs xs ys
  | _, _ => false
def feqs : List (List Val) → List (List Val) → Bool
  | [], [] => true
  | x :: xs, y :: ys => veqs x y && feqs xs ys
  | _, _ => false
end
mutual
def Val.ok : Val → Prop
  | .mk _ _ _ fs => fs.length ≤ 9223372036854775807 ∧ foks fs
def voks : List Val → Prop
  | [] => True
  | x :: xs => x.ok ∧ voks xs
def foks : List (List Val) → Prop
  | [] => True
  | x :: xs => (x.length ≤ 9223372036854775807 ∧ voks x) ∧ foks xs
end
mutual
theorem Val.lts : ∀ (x : Val) (m : Nat), AV.lts m x.cells = true
  | .mk k i t fs, m => by simp [Val.cells, frows_lt fs m]
theorem vrows_lt : ∀ (l : List Val) (m : Nat), AV.ltss m (vrows l) = true
  | [], m => by simp [vrows]
  | x :: xs, m => by simp [vrows, vrows_lt xs m, Val.lts x m]
theorem frows_lt : ∀ (l : List (List Val)) (m : Nat), AV.ltss m (frows l) = true
  | [], m => by simp [frows]
  | x :: xs, m => by simp [frows, frows_lt xs m, vrows_lt x m]
end
theorem vrows_map : ∀ l, vrows l = l.map Val.cells
  | [] => by simp [vrows]
  | x :: xs => by simp [vrows, vrows_map xs]
theorem frows_map : ∀ l, frows l = l.map fun x => [.sl none 4 (vrows x)]
  | [] => by simp [frows]
  | x :: xs => by simp [frows, frows_map xs]
theorem vrows_len (l : List Val) : (vrows l).length = l.length := by simp [vrows_map]
theorem frows_len (l : List (List Val)) : (frows l).length = l.length := by simp [frows_map]
theorem vcells_len (x : Val) : x.cells.length = 4 := by cases x; simp [Val.cells]
theorem vcells_ok (x : Val) : okCells x.cells = true := by cases x; simp [Val.cells, Value.oneCell']
theorem voks_mem : ∀ {l : List Val}, voks l → ∀ x ∈ l, x.ok
  | [], _, x, hx => by simp at hx
  | y :: ys, h, x, hx => by
    simp only [voks] at h
    simp only [List.mem_cons] at hx
    rcases hx with rfl | hx
    · exact h.1
    · exact voks_mem h.2 x hx
theorem foks_mem : ∀ {l : List (List Val)}, foks l → ∀ x ∈ l, x.length ≤ 9223372036854775807 ∧ voks x
  | [], _, x, hx => by simp at hx
  | y :: ys, h, x, hx => by
    simp only [foks] at h
    simp only [List.mem_cons] at hx
    rcases hx with rfl | hx
    · exact h.1
    · exact foks_mem h.2 x hx
def pAt {α : Type} (p : α → α → Bool) : Option α → Option α → Bool
  | some x, some y => p x y
  | _, _ => false
/-- Lists are the same just if they are as long, and the same place by place. -/
theorem eqs_all {α : Type} (eqs : List α → List α → Bool) (p : α → α → Bool) (h0 : eqs [] [] = true) (h1 : ∀ y ys, eqs [] (y :: ys) = false) (h2 : ∀ y ys, eqs (y :: ys) [] = false) (h3 : ∀ x xs y ys, eqs (x :: xs) (y :: ys) = (p x y && eqs xs ys)) :
    ∀ (l l' : List α), eqs l l' = (decide (l'.length = l.length) && (List.range l.length).all fun i => pAt p l[i]? l'[i]?)
  | [], [] => by simp [h0]
  | [], y :: ys => by simp [h1]
  | x :: xs, [] => by simp [h2]
  | x :: xs, y :: ys => by
    rw [h3, eqs_all eqs p h0 h1 h2 h3 xs ys]
    simp only [List.length_cons, Nat.add_right_cancel_iff, List.range_succ_eq_map, List.all_cons, List.all_map, Function.comp_def]
    simp [pAt]
    cases p x y <;> simp
theorem veqs_all (l l' : List Val) : veqs l l' = (decide (l'.length = l.length) && (List.range l.length).all fun i => pAt Val.eq l[i]? l'[i]?) := eqs_all veqs Val.eq (by simp [veqs]) (by simp [veqs]) (by simp [veqs]) (by simp [veqs]) l l'
theorem feqs_all (l l' : List (List Val)) : feqs l l' = (decide (l'.length = l.length) && (List.range l.length).all fun i => pAt veqs l[i]? l'[i]?) := eqs_all feqs veqs (by simp [feqs]) (by simp [feqs]) (by simp [feqs]) (by simp [feqs]) l l'

theorem f25 {k0 i k' i' : Int} {t t' : ByteArray} {l l' : List (List AV)} {b : Bool} (h : Pure Try.prog ann 21 [.sl none 1 l, .sl none 1 l'] (.v (.bool b))) :
    Pure Try.prog ann 25 [.agg [.v (.int .i64 k0), .v (.int .i64 i), .v (.string t), .sl none 1 l], .agg [.v (.int .i64 k'), .v (.int .i64 i'), .v (.string t'), .sl none 1 l']]
      (.v (.bool ((k0 == k' && (i == i' && t == t')) && b))) := by
  obtain ⟨K, h⟩ := h
  refine ⟨K + 1, fun k hk bs lo M hok => ?_⟩
  obtain ⟨k, rfl⟩ : ∃ j, k = j + 1 := ⟨k - 1, by omega⟩
  have hcall := fun M' hok' => h k (by omega) (M.length :: bs) lo M' hok'
  rw [ev_fn Try.func25 rfl (Nat.le_of_ble_eq_true rfl)]
  cases e1 : (k0 == k' && (i == i' && t == t'))
  · simp [ann, Try.f25, hok.lo, hok.loj, pr_guard45, pr_deql, e1]
  simp [ann, Try.f25, hok.lo, hok.loj, pr_guard45, pr_deql, e1, hcall _ (hok.push _)]
theorem f23 {l l' : List (List AV)} {b : Bool} (h : Pure Try.prog ann 24 [.sl none 4 l, .sl none 4 l', .fn (.func 25) [] []] (.v (.bool b))) :
    Pure Try.prog ann 23 [.agg [.sl none 4 l], .agg [.sl none 4 l']] (.v (.bool b)) := by
  obtain ⟨K, h⟩ := h
  refine ⟨K + 1, fun k hk bs lo M hok => ?_⟩
  obtain ⟨k, rfl⟩ : ∃ j, k = j + 1 := ⟨k - 1, by omega⟩
  have hcall := fun M' hok' => h k (by omega) (M.length :: bs) lo M' hok'
  rw [ev_fn Try.func23 rfl (Nat.le_of_ble_eq_true rfl)]
  simp [ann, Try.f23, hok.lo, hok.loj, hcall _ (hok.push _)]
theorem f21 {l l' : List (List AV)} {b : Bool} (h : Pure Try.prog ann 22 [.sl none 1 l, .sl none 1 l', .fn (.func 23) [] []] (.v (.bool b))) :
    Pure Try.prog ann 21 [.sl none 1 l, .sl none 1 l'] (.v (.bool b)) := by
  obtain ⟨K, h⟩ := h
  refine ⟨K + 1, fun k hk bs lo M hok => ?_⟩
  obtain ⟨k, rfl⟩ : ∃ j, k = j + 1 := ⟨k - 1, by omega⟩
  have hcall := fun M' hok' => h k (by omega) (M.length :: bs) lo M' hok'
  rw [ev_fn Try.func21 rfl (Nat.le_of_ble_eq_true rfl)]
  simp [ann, Try.f21, hcall _ hok.self]
theorem f16 {l l' : List (List AV)} {b : Bool} (h : Pure Try.prog ann 21 [.sl none 1 l, .sl none 1 l'] (.v (.bool b))) :
    Pure Try.prog ann 16 [.agg [.sl none 1 l], .agg [.sl none 1 l']] (.v (.bool b)) := by
  obtain ⟨K, h⟩ := h
  refine ⟨K + 1, fun k hk bs lo M hok => ?_⟩
  obtain ⟨k, rfl⟩ : ∃ j, k = j + 1 := ⟨k - 1, by omega⟩
  have hcall := fun M' hok' => h k (by omega) (M.length :: bs) lo M' hok'
  rw [ev_fn Try.func16 rfl (Nat.le_of_ble_eq_true rfl)]
  simp [ann, Try.f16, hok.lo, hok.loj, hcall _ (hok.push _)]
theorem f11 {l l' : List (List AV)} {b : Bool} (h : Pure Try.prog ann 15 [.sl none 1 l, .sl none 1 l', .fn (.func 16) [] []] (.v (.bool b))) :
    Pure Try.prog ann 11 [.sl none 1 l, .sl none 1 l'] (.v (.bool b)) := by
  obtain ⟨K, h⟩ := h
  refine ⟨K + 1, fun k hk bs lo M hok => ?_⟩
  obtain ⟨k, rfl⟩ : ∃ j, k = j + 1 := ⟨k - 1, by omega⟩
  have hcall := fun M' hok' => h k (by omega) (M.length :: bs) lo M' hok'
  rw [ev_fn Try.func11 rfl (Nat.le_of_ble_eq_true rfl)]
  simp [ann, Try.f11, hcall _ hok.self]

theorem vmem {l : List Val} {r : List AV} (h : r ∈ vrows l) : ∃ x ∈ l, r = x.cells := by
  rw [vrows_map] at h; simpa [eq_comm] using h
theorem fmem {l : List (List Val)} {r : List AV} (h : r ∈ frows l) : ∃ x ∈ l, r = [.sl none 4 (vrows x)] := by
  rw [frows_map] at h; simpa [eq_comm] using h

theorem same_fields (N : Nat) : ∀ l l' : List (List Val), SizeOf.sizeOf l < N → l.length ≤ 9223372036854775807 → foks l → Pure Try.prog ann 21 [.sl none 1 (frows l), .sl none 1 (frows l')] (.v (.bool (feqs l l'))) := by
  induction N with
  | zero => intro l l' h; omega
  | succ N ih =>
    intro l l' hN hl hok
    refine f21 ?_
    rw [feqs_all]
    have := eqf_22 (l1 := frows l) (l2 := frows l') (n := l.length) (p := fun i => pAt veqs l[i]? l'[i]?) (frows_len l) hl
      (fun r hr => by obtain ⟨x, _, rfl⟩ := fmem hr; rfl) (fun r hr => by obtain ⟨x, _, rfl⟩ := fmem hr; rfl)
      (fun r hr => by obtain ⟨x, _, rfl⟩ := fmem hr; rfl) (fun r hr => by obtain ⟨x, _, rfl⟩ := fmem hr; rfl)
      (frows_lt l) (frows_lt l') (by
        intro _ i r1 r2 h1 h2
        rw [frows_map, List.getElem?_map, Option.map_eq_some_iff] at h1 h2
        obtain ⟨x, hx, rfl⟩ := h1
        obtain ⟨y, hy, rfl⟩ := h2
        simp only [hx, hy, pAt]
        have hmem := List.mem_of_getElem? hx
        have hsz := List.sizeOf_lt_of_mem hmem
        obtain ⟨hxl, hxok⟩ := foks_mem hok _ hmem
        refine f23 ?_
        rw [veqs_all]
        have := eqf_24 (l1 := vrows x) (l2 := vrows y) (n := x.length) (p := fun i => pAt Val.eq x[i]? y[i]?) (vrows_len x) hxl
          (fun r hr => by obtain ⟨x, _, rfl⟩ := vmem hr; exact vcells_len x) (fun r hr => by obtain ⟨x, _, rfl⟩ := vmem hr; exact vcells_len x)
          (fun r hr => by obtain ⟨x, _, rfl⟩ := vmem hr; exact vcells_ok x) (fun r hr => by obtain ⟨x, _, rfl⟩ := vmem hr; exact vcells_ok x)
          (vrows_lt x) (vrows_lt y) (by
            intro _ i r1 r2 h1 h2
            rw [vrows_map, List.getElem?_map, Option.map_eq_some_iff] at h1 h2
            obtain ⟨u, hu, rfl⟩ := h1
            obtain ⟨v, hv, rfl⟩ := h2
            simp only [hu, hv, pAt]
            have hmem2 := List.mem_of_getElem? hu
            have hsz2 := List.sizeOf_lt_of_mem hmem2
            have huok := voks_mem hxok _ hmem2
            cases u with | mk a1 a2 a3 fs =>
            cases v with | mk b1 b2 b3 fs' =>
            simp only [Val.ok] at huok
            simp only [Val.mk.sizeOf_spec] at hsz2
            simp only [Val.cells, Val.eq]
            exact f25 (ih fs fs' (by omega) huok.1 huok.2))
        rw [vrows_len] at this
        exact this)
    rw [frows_len] at this
    exact this
end Go.Proofs.Fs
