/- ABSTRACT RUNS, THE OPERATIONS TOGETHER: one operation that calls nothing. -/
import Derived.Test.YtdohmfdigggofaaAg2
set_option linter.unusedSimpArgs false
set_option linter.unusedVariables false
namespace Go.Ag
open Go.RowKit

def intOfAV : AV → Option Int
  | .v (.int _ n) => some n
  | _ => none

/-- What an operation that calls nothing comes to: its value, the objects. 'ak': the key of what it makes. -/
def evOp1 (P : Program) (bs : List Nat) (lo : Nat) (M : Mem) (ak : Nat) (ev : Operand → AV) (o : Oper) : Option (AV × Mem) :=
  match o.op with
  | .move x | .assign x => some (ev x, M)
  | .pick c a b => match ev c with
    | .v (.bool t) => some (if t then ev a else ev b, M)
    | _ => none
  | .alloc t => match zeroOf P t with
    | some z => if lo ≤ ak then (putObj M ak (.cells (z.cells.toList.map constCell))).map fun M' => (.ptr ak 0, M') else none
    | none => none
  | .box t x => match (ev x).cells with
    | some cs => if lo ≤ ak then (putObj M ak (.cells cs)).map fun M' => (.ptr ak 0, M') else none
    | none => none
  | .load t x => (evLoad P M t (ev x)).map fun d => (d, M)
  | .store t x y => (evStore P bs lo M t (ev x) (ev y)).map fun M' => (.any, M')
  | .nilCheck x => match ev x with
    | .ptr k off => some (.ptr k off, M)
    | .ip cs => some (.ip cs, M)
    | .fn (.func f) fi ca => some (.fn (.func f) fi ca, M)
    | _ => none
  | .binOp op t x y _ => match (ev x).val, (ev y).val with
    | some a, some b => (pureRun P (do eqGuard op t x y a b; binOp op t a b)).map fun v => (.v v, M)
    | _, _ => none
  | .unOp op _ x => match (ev x).val with
    | some a => (pureRun P (Op.unary op a)).map fun v => (.v v, M)
    | none => none
  | .convert s d x => match (ev x).val with
    | some a => (pureRun P (convert s d a)).map fun v => (.v v, M)
    | none => none
  | .makeInterface t x => match isIface P t with
    | some false => some (.ifc t (ev x), M)
    | _ => none
  | .makeFunc fn first caps => some (.fn fn (first.toList.map ev) (caps.toList.map ev), M)
  | .fieldAddr s x f => match fieldOff P s f, ev x with
    | some off, .ptr k o => some (.ptr k (o + off), M)
    | some off, .ip cs => some (.ip (cs.drop off), M)
    | _, _ => none
  | .indexAddr t x i => match elemOf P t, ev x, intOfAV (ev i) with
    | some (_, n, _), .sl _ esz rows, some j => if n = esz ∧ 0 ≤ j then (rows[j.toNat]?).map fun r => (.ip r, M) else none
    | _, _, _ => none
  | .index t x i => match (ev x).val, (ev i).val with
    | some a, some b => (pureRun P (Instr.index t a b)).map fun v => (.v v, M)
    | _, _ => none
  | .extract x i => match ev x with
    | .tup xs => (xs[i]?).map fun d => (d, M)
    | _ => none
  | .call c => match c.callee with
    | .builtin b => match b with
      | .len => match c.args.toList.map ev, c.argTypes[0]? with
        | [.sl _ _ rows], some t => if isSlice P t then some (.v (.int .i64 rows.length), M) else none
        | [.v (.string s)], some t => (pureRun P (Builtin.len_ c.argTypes o.type #[.string s])).map fun v => (.v v, M)
        | _, _ => none
      | .min => match AV.vals (c.args.toList.map ev) with
        | some l => (pureRun P (Builtin.min_ c.argTypes o.type l.toArray)).map fun v => (.v v, M)
        | none => none
      | .max => match AV.vals (c.args.toList.map ev) with
        | some l => (pureRun P (Builtin.max_ c.argTypes o.type l.toArray)).map fun v => (.v v, M)
        | none => none
      | _ => none
    | _ => none
  | _ => none

/-- What the machine's operation yields. -/
def Yields (P : Program) (o : Oper) (a : Act) (w : World) (v : Value) (w' : World) : Prop :=
  (execOp a.eval o).run P w = .ok (.value v) w' ∨ ((execOp a.eval o).run P w = .ok .skip w' ∧ v = undef)

section
variable {P : Program} {bs : List Nat} {lo : Nat} {Fz : Nat → Prop} {wb : World} {g : Gh} {M M' : Mem} {w : World} {ak : Nat} {ev : Operand → AV} {o : Oper} {a : Act} {d : AV}

theorem lift_val {s : Sem Value} {v : Value} {w' : World} (h : s.run P w = .ok v w') : (do pure (Next.value (← s)) : Sem Next).run P w = .ok (.value v) w' := by
  simp [Sem.run_bind, h]

theorem VRs_map {f : Operand → AV} {l : List Operand} (h : ∀ x ∈ l, VR g (f x) (a.eval x)) : VRs g (l.map f) (l.map a.eval) := by
  induction l with
  | nil => exact VRs.nil
  | cons x xs ih => exact VRs.cons (h x (by simp)) (ih fun y hy => h y (by simp [hy]))

theorem Addr.add_plain (b o n : Nat) : (⟨b, o, none⟩ : Addr).add n = ⟨b, o + n, none⟩ := by
  unfold Addr.add
  split <;> simp_all

theorem fieldAt_ok {s : TypeId} {f off b o : Nat} (h : fieldOff P s f = some off) : (Instr.fieldAt s (.pointer (some ⟨b, o, none⟩)) f).run P w = .ok (.pointer (some ⟨b, o + off, none⟩)) w := by
  unfold fieldOff at h
  split at h
  · rename_i fields hu
    split at h
    · rename_i fl hf
      split at h
      · rename_i i hi
        split at h
        · cases h
        · rename_i hz
          simp at h; subst h
          have hs : (sizeOf fl.type).run P w = .ok i.size w := by simp [sizeOf, typeInfo, hi]
          simp [Instr.fieldAt, Sem.run_bind, run_underlying hu, hf, Instr.sureAddr, fieldPlace, hs, hz, Addr.add_plain]
      · cases h
    · cases h
  · cases h

theorem evOp1_sound (h : evOp1 P bs lo M ak ev o = some (d, M')) (hev : ∀ x, VR g (ev x) (a.eval x)) (hw : WR lo Fz wb g M w) :
    ∃ v w' g', Yields P o a w v w' ∧ VR g' d v ∧ WR lo Fz wb g' M' w' ∧ Step lo Fz g M g' M' := by
  have same : ∀ v, (execOp a.eval o).run P w = .ok (.value v) w → VR g d v → M' = M → ∃ v w' g', Yields P o a w v w' ∧ VR g' d v ∧ WR lo Fz wb g' M' w' ∧ Step lo Fz g M g' M' :=
    fun v h1 h2 e => ⟨v, w, g, .inl h1, h2, e ▸ hw, e ▸ Step.refl lo Fz g M⟩
  unfold evOp1 at h
  split at h
  · rename_i x ho
    simp at h; obtain ⟨rfl, rfl⟩ := h
    exact same _ (by simp [execOp, ho]) (hev x) rfl
  · rename_i x ho
    simp at h; obtain ⟨rfl, rfl⟩ := h
    exact same _ (by simp [execOp, ho]) (hev x) rfl
  · rename_i c x y ho
    split at h
    · rename_i t ht
      simp at h; obtain ⟨rfl, rfl⟩ := h
      have hc := hev c
      rw [ht] at hc
      unfold VR at hc
      refine same (if t then a.eval x else a.eval y) (by simp [execOp, ho, hc, asBool]) ?_ rfl
      cases t
      · exact hev y
      · exact hev x
    · cases h
  · rename_i t ho
    split at h
    · rename_i z hz
      split at h
      · rename_i hlo
        rw [Option.map_eq_some_iff] at h
        obtain ⟨M1, h1, h2⟩ := h
        simp only [Prod.mk.injEq] at h2
        obtain ⟨rfl, rfl⟩ := h2
        unfold zeroOf at hz
        cases hi : P.info? t with
        | none => simp [hi] at hz
        | some i =>
          simp [hi] at hz
          obtain ⟨q1, q2⟩ := hw.new (vs := z.cells) (T := t) h1 hlo (constCells_VR g _)
          refine ⟨.pointer (some ⟨w.heap.size, 0, none⟩), _, _, .inl ?_, ?_, q1, q2⟩
          · simp [execOp, ho, Instr.alloc, zeroValue, typeInfo, hi, hz, newVar, newRow]
          · unfold VR; exact ⟨by simp [Gh.bind]; omega, _, by simp [Gh.bind], rfl⟩
      · cases h
    · cases h
  · rename_i t x ho
    split at h
    · rename_i cs hcs
      split at h
      · rename_i hlo
        rw [Option.map_eq_some_iff] at h
        obtain ⟨M1, h1, h2⟩ := h
        simp only [Prod.mk.injEq] at h2
        obtain ⟨rfl, rfl⟩ := h2
        obtain ⟨q1, q2⟩ := hw.new (vs := (a.eval x).cells) (T := t) h1 hlo ((hev x).cells hcs)
        refine ⟨.pointer (some ⟨w.heap.size, 0, none⟩), _, _, .inl ?_, ?_, q1, q2⟩
        · simp [execOp, ho, Instr.box, newVar, newRow]
        · unfold VR; exact ⟨by simp [Gh.bind]; omega, _, by simp [Gh.bind], rfl⟩
      · cases h
    · cases h
  · rename_i t x ho
    simp at h
    obtain ⟨d1, h1, rfl, rfl⟩ := h
    obtain ⟨z, h2, h3⟩ := evLoad_ok h1 hw (hev x)
    exact same z (by simp [execOp, ho, h2]) h3 rfl
  · rename_i t x y ho
    rw [Option.map_eq_some_iff] at h
    obtain ⟨M1, h1, h2⟩ := h
    simp only [Prod.mk.injEq] at h2
    obtain ⟨rfl, rfl⟩ := h2
    obtain ⟨w', h2, h3, h4⟩ := evStore_ok h1 hw (hev x) (hev y)
    exact ⟨undef, w', g, .inr ⟨by simp [execOp, ho, h2], rfl⟩, by unfold VR; trivial, h3, h4⟩
  · rename_i x ho
    have hx := hev x
    split at h
    · rename_i k off e
      simp at h; obtain ⟨rfl, rfl⟩ := h
      rw [e] at hx
      have hx0 := hx
      unfold VR at hx
      obtain ⟨_, b, _, hb⟩ := hx
      refine same _ ?_ hx0 rfl
      simp [execOp, ho, hb]
    · rename_i cs e
      simp at h; obtain ⟨rfl, rfl⟩ := h
      rw [e] at hx
      have hx0 := hx
      unfold VR at hx
      obtain ⟨b, o', vs, hb, _⟩ := hx
      refine same _ ?_ hx0 rfl
      simp [execOp, ho, hb]
    · rename_i f fi ca e
      simp at h; obtain ⟨rfl, rfl⟩ := h
      rw [e] at hx
      have hx0 := hx
      unfold VR at hx
      obtain ⟨fi', ca', hb, _⟩ := hx
      refine same _ ?_ hx0 rfl
      simp [execOp, ho, hb]
    · cases h
  · rename_i op t x y yt ho
    split at h
    · rename_i p q hp hq
      simp at h
      obtain ⟨v, h1, rfl, rfl⟩ := h
      have e1 := (hev x).val hp
      have e2 := (hev y).val hq
      have := pureRun_ok w _ h1
      refine same v ?_ (by unfold VR; rfl) rfl
      simp only [execOp, ho, e1, e2]
      exact lift_val this
    · cases h
  · rename_i op t x ho
    split at h
    · rename_i p hp
      simp at h
      obtain ⟨v, h1, rfl, rfl⟩ := h
      have e1 := (hev x).val hp
      refine same v ?_ (by unfold VR; rfl) rfl
      simp only [execOp, ho, e1]
      exact lift_val (pureRun_ok w _ h1)
    · cases h
  · rename_i s t x ho
    split at h
    · rename_i p hp
      simp at h
      obtain ⟨v, h1, rfl, rfl⟩ := h
      have e1 := (hev x).val hp
      refine same v ?_ (by unfold VR; rfl) rfl
      simp only [execOp, ho, e1]
      exact lift_val (pureRun_ok w _ h1)
    · cases h
  · rename_i t x ho
    split at h
    · rename_i hi
      simp at h; obtain ⟨rfl, rfl⟩ := h
      refine same (.iface t (a.eval x)) ?_ (by unfold VR; exact ⟨_, rfl, hev x⟩) rfl
      simp only [execOp, ho]
      refine lift_val ?_
      unfold isIface at hi
      split at hi
      · simp at hi
      · rename_i dd _ hu
        simp only [Instr.makeInterface, Sem.run_bind, run_underlying hu, Result.andThen_ok]
        cases dd <;> first | rfl | (exfalso; rename_i hne; exact hne _ rfl) | skip
      · cases hi
    · cases h
  · rename_i fn first caps ho
    simp at h; obtain ⟨rfl, rfl⟩ := h
    refine same (.func fn (first.map a.eval) (caps.map a.eval)) (by simp [execOp, ho, Instr.makeFunc]) ?_ rfl
    unfold VR
    exact ⟨_, _, rfl, by simpa using VRs_map (a := a) (f := ev) (l := first.toList) (fun x _ => hev x), by simpa using VRs_map (a := a) (f := ev) (l := caps.toList) (fun x _ => hev x)⟩
  · rename_i s x f ho
    have hx := hev x
    split at h
    · rename_i off k o' hoff e
      simp at h; obtain ⟨rfl, rfl⟩ := h
      rw [e] at hx
      unfold VR at hx
      obtain ⟨h0, b, h1, hb⟩ := hx
      refine same (.pointer (some ⟨b, o' + off, none⟩)) ?_ (by unfold VR; exact ⟨h0, b, h1, rfl⟩) rfl
      simp only [execOp, ho, hb]
      exact lift_val (fieldAt_ok hoff)
    · rename_i off cs hoff e
      simp at h; obtain ⟨rfl, rfl⟩ := h
      rw [e] at hx
      unfold VR at hx
      obtain ⟨b, o', vs, hb, h2, h3⟩ := hx
      refine same (.pointer (some ⟨b, o' + off, none⟩)) ?_ ?_ rfl
      · simp only [execOp, ho, hb]
        exact lift_val (fieldAt_ok hoff)
      · unfold VR
        refine ⟨b, o' + off, vs.drop off, rfl, h2.drop off, fun j v hj => ?_⟩
        rw [List.getElem?_drop] at hj
        rw [Nat.add_assoc]
        exact h3 _ _ hj
    · cases h
  · rename_i t x i ho
    have hx := hev x
    have hi := hev i
    split at h
    · rename_i e0 n bts tok esz rows j he hex hj
      split at h
      · rename_i hc
        obtain ⟨rfl, hj0⟩ := hc
        simp at h
        obtain ⟨r, hr, rfl, rfl⟩ := h
        rw [hex] at hx
        unfold VR at hx
        obtain ⟨A, c, hb, hle, hrows, _⟩ := hx
        obtain ⟨b, o', vs, rfl, hlen, hvs, hcells⟩ := hrows.get hr
        have hlt : j.toNat < rows.length := (List.getElem?_eq_some_iff.1 hr).1
        obtain ⟨k, hik⟩ : ∃ k, a.eval i = .int k j := by
          cases hiv : ev i <;> rw [hiv] at hj <;> simp only [intOfAV] at hj <;> try (cases hj; done)
          rename_i x
          cases x <;> simp at hj
          subst hj
          rw [hiv] at hi
          unfold VR at hi
          exact ⟨_, hi⟩
        unfold elemOf at he
        split at he
        · rename_i e1 hu
          split at he
          · rename_i inf hinf
            simp at he
            obtain ⟨rfl, rfl, rfl⟩ := he
            have hs : (sizeOf e1).run P w = .ok inf.size w := by simp [sizeOf, typeInfo, hinf]
            refine same (.pointer (some ⟨b, o' + j.toNat * inf.size, none⟩)) ?_ (by unfold VR; exact ⟨b, _, vs, rfl, hvs, hcells⟩) rfl
            simp only [execOp, ho, hb, hik]
            refine lift_val ?_
            have hcond : 0 ≤ j ∧ j < (rows.length : Int) := by omega
            simp [Instr.indexAt, asIntOf, Sem.run_bind, run_underlying hu, hs, hcond, Addr.add_plain]
          · cases he
        · cases he
      · cases h
    · cases h
  · rename_i t x i ho
    split at h
    · rename_i p q hp hq
      simp at h
      obtain ⟨v, h1, rfl, rfl⟩ := h
      refine same v ?_ (by unfold VR; rfl) rfl
      simp only [execOp, ho, (hev x).val hp, (hev i).val hq]
      exact lift_val (pureRun_ok w _ h1)
    · cases h
  · rename_i x i ho
    have hx := hev x
    split at h
    · rename_i xs e
      simp at h
      obtain ⟨d1, h1, rfl, rfl⟩ := h
      rw [e] at hx
      unfold VR at hx
      obtain ⟨vs, hb, h2⟩ := hx
      obtain ⟨v, h3, h4⟩ := h2.get h1
      refine same v ?_ h4 rfl
      have h3' : vs[i]? = some v := by simpa using h3
      simp [execOp, ho, hb, Instr.extract, h3']
    · cases h
  · rename_i c ho
    split at h
    · rename_i bi hbi
      split at h
      · have hargs : VRs g (c.args.toList.map ev) (c.args.map a.eval).toList := by simpa using VRs_map (a := a) (f := ev) (l := c.args.toList) (fun x _ => hev x)
        split at h
        · rename_i tok esz rows t he ht
          split at h
          · rename_i hsl
            simp at h; obtain ⟨rfl, rfl⟩ := h
            rw [he] at hargs
            unfold VRs at hargs
            obtain ⟨v, vs, e1, e2, e3⟩ := hargs
            unfold VRs at e3; subst e3
            unfold VR at e2
            obtain ⟨A, c', rfl, _⟩ := e2
            have e1' : c.args.map a.eval = #[.slice A rows.length c'] := by apply Array.toList_inj.1; simpa using e1
            refine same (.int .i64 rows.length) ?_ (by unfold VR; rfl) rfl
            unfold isSlice at hsl
            split at hsl
            · rename_i e0 hu
              simp [execOp, ho, resolve, hbi, e1', invoke, builtin, Builtin.len_, ht, run_underlying hu, goInt]
            · cases hsl
          · cases h
        · rename_i s t he ht
          simp at h
          obtain ⟨v, h1, rfl, rfl⟩ := h
          rw [he] at hargs
          have e1 := hargs.vals (x := [.string s]) (by simp [AV.vals, AV.val])
          have e1' : c.args.map a.eval = #[.string s] := by apply Array.toList_inj.1; simpa using e1
          refine same v ?_ (by unfold VR; rfl) rfl
          simp only [execOp, ho, resolve, hbi, e1', invoke, builtin, Sem.run_bind, Sem.run_pure, Result.andThen_ok, pureRun_ok w _ h1]
        · cases h
      · have hargs : VRs g (c.args.toList.map ev) (c.args.map a.eval).toList := by simpa using VRs_map (a := a) (f := ev) (l := c.args.toList) (fun x _ => hev x)
        split at h
        · rename_i l hl
          simp at h
          obtain ⟨v, h1, rfl, rfl⟩ := h
          have e1 := hargs.vals hl
          have e1' : c.args.map a.eval = l.toArray := by apply Array.toList_inj.1; simpa using e1
          refine same v ?_ (by unfold VR; rfl) rfl
          simp only [execOp, ho, resolve, hbi, e1', invoke, builtin, Sem.run_bind, Sem.run_pure, Result.andThen_ok, pureRun_ok w _ h1]
        · cases h
      · have hargs : VRs g (c.args.toList.map ev) (c.args.map a.eval).toList := by simpa using VRs_map (a := a) (f := ev) (l := c.args.toList) (fun x _ => hev x)
        split at h
        · rename_i l hl
          simp at h
          obtain ⟨v, h1, rfl, rfl⟩ := h
          have e1 := hargs.vals hl
          have e1' : c.args.map a.eval = l.toArray := by apply Array.toList_inj.1; simpa using e1
          refine same v ?_ (by unfold VR; rfl) rfl
          simp only [execOp, ho, resolve, hbi, e1', invoke, builtin, Sem.run_bind, Sem.run_pure, Result.andThen_ok, pureRun_ok w _ h1]
        · cases h
      · cases h
    · cases h
  · cases h
end
end Go.Ag
