/- ABSTRACT RUNS, BYTES AND STRINGS; slices made. -/
import Derived.Test.YtdaillghcmmhcaaK01
import Derived.Laws.IdiomStrings
import Derived.Laws.MakeOwn
set_option linter.unusedSimpArgs false
set_option linter.unusedVariables false
namespace Go.Ag
open Go.RowKit
def bRows (l : List UInt8) : List (List AV) := l.map fun b => [.v (.int .u8 b.toNat)]
def bytesOf : List (List AV) → Option (List UInt8)
  | [] => some []
  | [.v (.int .u8 n)] :: rs => (bytesOf rs).map fun l => UInt8.ofNat n.toNat :: l
  | _ => none
section
variable {P : Program} {lo : Nat} {Fz : Nat → Prop} {wb : World} {g : Gh} {M : Mem} {w w' : World}
theorem RowsR.of {g : Gh} {esz : Nat} {b : Nat} : ∀ (o : Nat) (rows : List (List AV)), (∀ (i : Nat) (row : List AV), rows[i]? = some row → ∃ vs, vs.length = esz ∧ VRs g row vs ∧ CellsAt g b (o + i * esz) vs) → RowsR g esz (some ⟨b, o, none⟩) rows
  | o, [], _ => by unfold RowsR; trivial
  | o, row :: rest, h => by
    unfold RowsR
    obtain ⟨vs, h1, h2, h3⟩ := h 0 row rfl
    refine ⟨b, o, vs, rfl, h1, h2, by simpa using h3, RowsR.of _ _ fun i r hr => ?_⟩
    obtain ⟨vs, h1, h2, h3⟩ := h (i + 1) r (by simpa using hr)
    exact ⟨vs, h1, h2, by rw [Nat.add_mul, Nat.one_mul, Nat.add_comm (i * esz), ← Nat.add_assoc] at h3; exact h3⟩
def Gh.fresh (g : Gh) (b0 : Nat) (vs : Array Value) : Gh := { g with G := fun b o => if b = b0 then vs[o]? else g.G b o }
theorem WR.fresh (hw : WR lo Fz wb g M w) {vs : Array Value} {T : TypeId} {fr : Nat × Nat} (hw' : w' = w ∨ w' = w.drew) (hz : ∀ (o : Nat) (i : Value), turns i → vs[o]? ≠ some i) :
    WR lo Fz wb (g.fresh w.heap.size vs) M (w'.alloc (.cells vs T fr)) ∧ Step lo Fz g M (g.fresh w.heap.size vs) M := by
  have eh : w'.heap = w.heap := by rcases hw' with rfl | rfl <;> rfl
  have ho : w'.os = w.os ∧ w'.tape = w.tape ∧ w'.output = w.output := by rcases hw' with rfl | rfl <;> exact ⟨rfl, rfl, rfl⟩
  have hold : ∀ b, b < w.heap.size → (w'.alloc (.cells vs T fr)).heap[b]? = w.heap[b]? := fun b hb => by rw [Below.heap_alloc _ _ _ (by rw [eh]; exact hb), eh]
  have hnew := heap_alloc_new w' (.cells vs T fr)
  rw [eh] at hnew
  have hle : g.le (g.fresh w.heap.size vs) := by
    refine ⟨fun b o v h => ?_, fun _ _ h => h, Nat.le_refl _, fun _ _ h => h, fun _ _ _ _ h => h, rfl, rfl⟩
    have := block_lt_of_cell (hw.imm _ _ _ h)
    simp only [Gh.fresh]
    rw [if_neg (by omega)]; exact h
  have hsz := hw.size
  refine ⟨⟨ho.1.trans hw.os, ho.2.1.trans hw.tape, ho.2.2.trans hw.output, by simp [eh]; omega, fun b hb => ?_, hw.fz, hw.len, hw.wf, hw.wfh, ?_, ?_, ?_, ?_, ?_, hw.sep2, ?_, ?_, ?_, hw.old⟩, ⟨hle, ?_, fun _ _ => rfl, fun _ _ _ => ⟨rfl, rfl⟩, fun _ _ _ => rfl, Nat.le_refl _⟩⟩
  · rw [hold b (by have := hw.fz b hb; omega)]; exact hw.block b hb
  · intro b o v h
    simp only [Gh.fresh] at h
    split at h
    · rename_i e; subst e
      simp [World.cell?, hnew, h]
    · have h1 := hw.imm _ _ _ h
      have hlt := block_lt_of_cell h1
      unfold World.cell? at h1 ⊢
      rw [hold b hlt]; exact h1
  · intro b es h
    obtain ⟨cl, h1⟩ := hw.imm2 b es h
    exact ⟨cl, by rw [hold b (heap_lt h1)]; exact h1⟩
  · intro k o h
    exact (hw.obj _ _ h).frame hle rfl rfl fun b hb => hold b ((hw.obj _ _ h).lt hb)
  · exact hw.own
  · intro k b h o
    have := hw.cur_lt (g := g) (M := M) h
    simp only [Gh.fresh]
    rw [if_neg (by omega)]
    exact hw.sep k b h o
  · exact hw.inj
  · intro b o hb
    obtain ⟨q1, q2, q3, us, U, i, q4, q5, q6⟩ := hw.wko b o hb
    have hlt := heap_lt q4
    refine ⟨q1, ?_, q3, us, U, i, by rw [hold b hlt]; exact q4, q5, q6⟩
    simp only [Gh.fresh]
    rw [if_neg (by omega)]; exact q2
  · intro b o i hi h hN
    simp only [Gh.fresh] at h
    split at h
    · exact absurd h (hz o i hi)
    · obtain ⟨us, U, h1⟩ := hw.imz b o i hi h hN
      exact ⟨us, U, by rw [hold b (heap_lt h1)]; exact h1⟩
  · intro b o hb
    have := hw.fz b hb
    simp only [Gh.fresh]
    rw [if_neg (by omega)]
theorem toBytes_ok {src dst e : TypeId} {s : ByteArray} (hw : WR lo Fz wb g M w) (hs : P.underlying src = some .string) (hd : P.underlying dst = some (.slice e)) (he : P.underlying e = some (.int .u8)) :
    ∃ z w' g', (convert src dst (.string s)).run P w = .ok z w' ∧ VR g' (.sl (bRows s.data.toList) []) z ∧ WR lo Fz wb g' M w' ∧ Step lo Fz g M g' M := by
  obtain ⟨q1, q2⟩ := hw.fresh (w' := w.drew) (vs := bytesRow s (grownCap w s.size 0 e)) (T := e) (fr := ((bytesRow s (grownCap w s.size 0 e)).size, (bytesRow s (grownCap w s.size 0 e)).size + 1)) (.inr rfl) (fun o i hi => by
    unfold bytesRow
    rw [Array.getElem?_append]
    split
    · intro h
      rw [Array.getElem?_map, Option.map_eq_some_iff] at h
      obtain ⟨_, _, h⟩ := h
      cases h
      rcases hi with ⟨_, hi⟩ | ⟨_, hi⟩ <;> cases hi
    · intro h
      rw [Array.getElem?_replicate] at h
      split at h
      · cases h
        rcases hi with ⟨_, hi⟩ | ⟨_, hi⟩ <;> cases hi
      · cases h)
  refine ⟨_, _, _, run_bytes_of_string w src dst e s hs hd he, ?_, q1, q2⟩
  have hge := grownCap_ge w s.size 0 e
  have hlen : (bRows s.data.toList).length = s.size := by simp [bRows]
  unfold VR
  refine ⟨some ⟨w.heap.size, 0, none⟩, grownCap w s.size 0 e, 1, by rw [hlen], by rw [hlen]; exact hge, ?_, by unfold RowsR; trivial⟩
  refine RowsR.of 0 _ fun i row hi => ?_
  simp only [bRows, List.getElem?_map, Option.map_eq_some_iff] at hi
  obtain ⟨b, hb, rfl⟩ := hi
  refine ⟨[.int .u8 b.toNat], rfl, VRs.one (by unfold VR; rfl), ?_⟩
  intro j v hj
  have hj0 : j = 0 := by
    have := (List.getElem?_eq_some_iff.1 hj).1
    simp at this; exact this
  subst hj0
  simp at hj; subst hj
  have hb' : s.data[i]? = some b := by simpa using hb
  have hlt := (Array.getElem?_eq_some_iff.1 hb').1
  simp only [Gh.fresh, if_true, bytesRow]
  have hlt2 : 0 + i * 1 + 0 < (s.data.map fun b => Value.int .u8 b.toNat).size := by rw [Array.size_map]; omega
  rw [Array.getElem?_append, if_pos hlt2]
  simp [hb']
theorem bytesOf_cells : ∀ {rows : List (List AV)} {l : List UInt8} {cs : List Value}, bytesOf rows = some l → RowsV g 1 rows cs → cs.length = rows.length → ∃ ns : List Int, cs = ns.map (Value.int .u8) ∧ l = ns.map fun n => UInt8.ofNat n.toNat
  | [], l, cs, h, _, hl => by
    simp [bytesOf] at h; subst h
    simp at hl; subst hl
    exact ⟨[], rfl, rfl⟩
  | r :: rs, l, cs, h, hv, hl => by
    unfold bytesOf at h
    split at h
    · rename_i h1; cases h1
    · rename_i n rs' e
      simp only [List.cons.injEq] at e
      obtain ⟨rfl, rfl⟩ := e
      rw [Option.map_eq_some_iff] at h
      obtain ⟨l', h1, rfl⟩ := h
      unfold RowsV at hv
      obtain ⟨q1, q2, q3⟩ := hv
      cases cs with
      | nil => simp at hl
      | cons c cs =>
        simp only [List.take_succ_cons, List.take_zero, List.drop_succ_cons, List.drop_zero] at q2 q3
        obtain ⟨ns, rfl, rfl⟩ := bytesOf_cells h1 q3 (by simpa using hl)
        unfold VRs at q2
        obtain ⟨v, vs, e1, e2, _⟩ := q2
        simp at e1
        obtain ⟨rfl, _⟩ := e1
        unfold VR at e2
        subst e2
        exact ⟨n :: ns, rfl, rfl⟩
    · cases h
theorem foldl_push (ns : List Int) : ∀ s : ByteArray, ns.foldl (fun r n => r.push (UInt8.ofNat n.toNat)) s = ⟨s.data ++ (ns.map fun n => UInt8.ofNat n.toNat).toArray⟩ := by
  induction ns with
  | nil => intro s; simp
  | cons n ns ih =>
    intro s
    rw [List.foldl_cons, ih]
    apply ByteArray.ext
    show (s.data.push _) ++ _ = _
    simp
theorem toStr_ok {src dst e : TypeId} {x : AV} {y : Value} {rows : List (List AV)} {l : List UInt8} (hw : WR lo Fz wb g M w) (hx : VR g x y) (hs : P.underlying src = some (.slice e)) (he : P.underlying e = some (.int .u8)) (hd : P.underlying dst = some .string)
    (hr : rowsOf M 1 x = some rows) (hb : bytesOf rows = some l) : (convert src dst y).run P w = .ok (.string ⟨l.toArray⟩) w := by
  obtain ⟨A, c, cs, rfl, _, hcl, hcv, _, hca⟩ := rowsOf_ok hr hw hx
  obtain ⟨ns, rfl, rfl⟩ := bytesOf_cells hb hcv (by simpa using hcl)
  rw [run_convert_bytes_string w src dst e A _ c hs he hd]
  cases A with
  | none =>
    have : ns = [] := by
      cases ns with
      | nil => rfl
      | cons v vs => obtain ⟨a, e, _⟩ := hca 0 _ rfl; cases e
    subst this
    simp [Conv.bytesToString]
    rfl
  | some a =>
    have hcl' : (ns.map (Value.int .u8)).length = rows.length := by simpa using hcl
    have hload : (loadCells a rows.length).run P w = .ok (ns.map (Value.int .u8)).toArray w := by
      rw [← hcl']
      refine run_loadCells_list w a _ fun j v hj => ?_
      obtain ⟨a', e, h⟩ := hca j v hj
      cases e
      exact h
    rw [run_bytesToString w a rows.length c ns hload, foldl_push]
    congr 2
    apply ByteArray.ext
    simp
end
end Go.Ag
/- ABSTRACT RUNS, VALUES AND SLICES BUILT. -/
namespace Go.Ag
open Go.RowKit
def evFill (place : Nat → Option (Nat × Nat)) : List AV → List (Nat × AV) → Option (List AV)
  | cells, [] => some cells
  | cells, (i, v) :: rest => match place i, v.cells with
    | some (off, size), some cs => if cs.length = size ∧ off + size ≤ cells.length then evFill place (splice cells cs off) rest else none
    | _, _ => none
theorem foldl_set (off : Nat) : ∀ (l : List Value) (k : Nat) (cs : Array Value), off + k + l.length ≤ cs.size →
    (l.zipIdx k).foldl (fun cs (x : Value × Nat) => cs.setIfInBounds (off + x.2) x.1) cs = (cs.toList.take (off + k) ++ l ++ cs.toList.drop (off + k + l.length)).toArray
  | [], k, cs, h => by simp
  | v :: l, k, cs, h => by
    rw [List.zipIdx_cons, List.foldl_cons, foldl_set off l (k + 1) _ (by simp at h ⊢; omega)]
    congr 1
    have hlt : off + k < cs.toList.length := by simp at h ⊢; omega
    have e : (cs.setIfInBounds (off + k) v).toList = cs.toList.set (off + k) v := by simp
    simp only [e]
    apply List.ext_getElem?
    intro q
    have h1 : off + (k + 1) + l.length ≤ (cs.toList.set (off + k) v).length := by simp at h ⊢; omega
    have h2 : off + k + (v :: l).length ≤ cs.toList.length := by simp at h ⊢; omega
    rw [spl_get _ _ _ _ h1, spl_get _ _ _ _ h2]
    simp only [List.length_cons]
    by_cases q1 : q < off + k
    · rw [if_pos (by omega), if_pos q1, List.getElem?_set, if_neg (by omega)]
    · by_cases q2 : q = off + k
      · subst q2
        rw [if_pos (by omega), if_neg (by omega), if_pos (by omega), List.getElem?_set, if_pos rfl, if_pos hlt]
        simp
      · by_cases q3 : q < off + (k + 1) + l.length
        · rw [if_neg (by omega), if_pos q3, if_neg q1, if_pos (by omega)]
          rw [show q - (off + k) = (q - (off + (k + 1))) + 1 by omega]
          rfl
        · rw [if_neg (by omega), if_neg q3, if_neg q1, if_neg (by omega), List.getElem?_set, if_neg (by omega)]
section
variable {P : Program} {lo : Nat} {Fz : Nat → Prop} {wb : World} {g : Gh} {M M' : Mem} {w : World}
def PartsR (g : Gh) : List (Nat × AV) → List (Nat × Value) → Prop
  | [], l => l = []
  | p :: ps, l => ∃ q qs, l = q :: qs ∧ q.1 = p.1 ∧ VR g p.2 q.2 ∧ PartsR g ps qs
theorem PartsR_map {ev : Operand → AV} {a : Act} : ∀ (l : List (Nat × Operand)), (∀ x, VR g (ev x) (a.eval x)) → PartsR g (l.map fun p => (p.1, ev p.2)) (l.map fun p => (p.1, a.eval p.2))
  | [], _ => rfl
  | p :: ps, h => ⟨_, _, rfl, rfl, h p.2, PartsR_map ps h⟩
theorem fill_ok {place : Nat → Option (Nat × Nat)} : ∀ {parts : List (Nat × AV)} {ps : List (Nat × Value)} {cells out : List AV} {vs : Array Value}, evFill place cells parts = some out → PartsR g parts ps → VRs g cells vs.toList →
    ∃ vs', Instr.fill place vs ps = some vs' ∧ VRs g out vs'.toList
  | [], ps, cells, out, vs, h, hp, hv => by
    simp [evFill] at h; subst h
    have : ps = [] := hp
    subst this
    exact ⟨vs, rfl, hv⟩
  | (i, v) :: rest, ps, cells, out, vs, h, hp, hv => by
    obtain ⟨q, qs, rfl, h1, h2, h3⟩ := hp
    obtain ⟨i', u⟩ := q
    simp only at h1 h2
    subst h1
    simp only [evFill] at h
    split at h
    · rename_i off size cs hpl hcs
      split at h
      · rename_i hc
        have hu := h2.cells hcs
        have hul := hu.length
        have hvl := hv.length
        simp at hul hvl
        have hvs := splice_VRs (off := off) hv hu
        have e := foldl_set off u.cells.toList 0 vs (by simp; omega)
        simp only [Nat.add_zero] at e
        obtain ⟨vs', q1, q2⟩ := fill_ok (vs := (vs.toList.take off ++ u.cells.toList ++ vs.toList.drop (off + u.cells.toList.length)).toArray) h h3 (by simpa using hvs)
        refine ⟨vs', ?_, q2⟩
        rw [← e] at q1
        simp only [Instr.fill, hpl]
        rw [if_neg (by simp; omega)]
        rw [← q1]
        congr 1
        rw [← Array.foldl_toList]
        simp
      · cases h
    · cases h
def chop (n : Nat) : Nat → List AV → List (List AV)
  | 0, _ => []
  | k + 1, l => l.take n :: chop n k (l.drop n)
theorem chop_length (n : Nat) : ∀ (k : Nat) (l : List AV), (chop n k l).length = k
  | 0, _ => rfl
  | k + 1, l => by simp [chop, chop_length n k]
theorem chop_V {n : Nat} : ∀ {k : Nat} {l : List AV} {vs : List Value}, VRs g l vs → k * n ≤ vs.length → RowsV g n (chop n k l) vs
  | 0, l, vs, _, _ => trivial
  | k + 1, l, vs, h, hl => by
    rw [Nat.add_mul] at hl
    unfold chop RowsV
    exact ⟨by omega, h.takeN n, chop_V (h.drop n) (by simp; omega)⟩
def placeFn (P : Program) (t : TypeId) : Option (Nat → Option (Nat × Nat)) :=
  match P.underlying t with
  | some (.struct fs) => (fs.toList.mapM fun f => (P.info? f.type).map fun i => (f.offset, i.size)).map fun l => fun i => l[i]?
  | some (.array _ e) => (P.info? e).map fun i => fun j => some (j * i.size, i.size)
  | _ => none
def evBuild (P : Program) (t : TypeId) (parts : List (Nat × AV)) : Option AV :=
  match zeroOf P t, placeFn P t with
  | some z, some place => (evFill place (z.cells.toList.map constCell) parts).map .agg
  | _, _ => none
theorem place_run (w : World) (f : Field) {i : TypeInfo} (hi : P.info? f.type = some i) : (Prod.mk f.offset <$> sizeOf f.type : Sem (Nat × Nat)).run P w = .ok (f.offset, i.size) w := by
  simp [sizeOf, typeInfo, hi]
theorem places_run (w : World) : ∀ (fs : List Field) (l : List (Nat × Nat)), (fs.mapM fun f => (P.info? f.type).map fun i => (f.offset, i.size)) = some l →
    ((fs.mapM fun f => Prod.mk f.offset <$> sizeOf f.type : Sem (List (Nat × Nat)))).run P w = .ok l w
  | [], l, h => by
    simp at h; subst h
    simp
  | f :: fs, l, h => by
    rw [List.mapM_cons] at h
    simp only [Option.bind_eq_bind, Option.bind_eq_some_iff, Option.map_eq_some_iff, Option.pure_def, Option.some.injEq] at h
    obtain ⟨x, ⟨i, hi, rfl⟩, xs, hxs, rfl⟩ := h
    rw [List.mapM_cons, Sem.run_bind, place_run w f hi, Result.andThen_ok, Sem.run_bind, places_run w fs xs hxs, Result.andThen_ok]
    rfl
theorem places_arr (w : World) (fs : Array Field) (l : List (Nat × Nat)) (h : (fs.toList.mapM fun f => (P.info? f.type).map fun i => (f.offset, i.size)) = some l) :
    (fs.mapM fun f => Prod.mk f.offset <$> sizeOf f.type : Sem (Array (Nat × Nat))).run P w = .ok l.toArray w := by
  rw [Array.mapM_eq_mapM_toList]
  have := places_run w fs.toList l h
  rw [← bind_pure_comp, Sem.run_bind, this]
  rfl
theorem evBuild_ok {t : TypeId} {parts : List (Nat × AV)} {ps : Array (Nat × Value)} {d : AV} (h : evBuild P t parts = some d) (hp : PartsR g parts ps.toList) : ∃ v, (Instr.build t ps).run P w = .ok v w ∧ VR g d v := by
  unfold evBuild at h
  split at h
  · rename_i z place hz hpl
    rw [Option.map_eq_some_iff] at h
    obtain ⟨cells, h1, rfl⟩ := h
    obtain ⟨vs, q1, q2⟩ := fill_ok (vs := z.cells) h1 hp (constCells_VR g _)
    unfold zeroOf at hz
    cases hi : P.info? t with
    | none => simp [hi] at hz
    | some i =>
      simp [hi] at hz
      unfold placeFn at hpl
      split at hpl
      · rename_i fs hu
        rw [Option.map_eq_some_iff] at hpl
        obtain ⟨l, h2, rfl⟩ := hpl
        have h4 := places_arr w fs l h2
        refine ⟨.agg vs, ?_, by unfold VR; exact ⟨vs, rfl, q2⟩⟩
        simp [Instr.build, zeroValue, typeInfo, hi, hz, run_underlying hu, h4, q1]
      · rename_i n e hu
        rw [Option.map_eq_some_iff] at hpl
        obtain ⟨ie, h2, rfl⟩ := hpl
        refine ⟨.agg vs, ?_, by unfold VR; exact ⟨vs, rfl, q2⟩⟩
        simp [Instr.build, zeroValue, typeInfo, hi, hz, run_underlying hu, sizeOf, h2, q1]
      · cases hpl
  · cases h
theorem rep_get {α : Type} (l : List α) (hl : 0 < l.length) : ∀ (n q : Nat), ((List.replicate n l).flatten)[q]? = if q < n * l.length then l[q % l.length]? else none
  | 0, q => by simp
  | n + 1, q => by
    rw [List.replicate_succ, List.flatten_cons, List.getElem?_append, Nat.add_mul, Nat.one_mul]
    by_cases h : q < l.length
    · rw [if_pos h, if_pos (by omega), Nat.mod_eq_of_lt h]
    · rw [if_neg h, rep_get l hl n]
      have e : (q - l.length) % l.length = q % l.length := (Nat.mod_eq_sub_mod (by omega)).symm
      rw [e]
      by_cases h2 : q - l.length < n * l.length
      · rw [if_pos h2, if_pos (by omega)]
      · rw [if_neg h2, if_neg (by omega)]
theorem made_list {z : Array Value} {n len : Nat} (hz : z.size = n) (hn : 0 < n) : (madeCells z (len * n)).toList = (List.replicate len z.toList).flatten := by
  apply List.ext_getElem?
  intro q
  rw [rep_get _ (by simp; omega)]
  simp only [madeCells, Array.toList_map, List.getElem?_map]
  have hl : z.toList.length = n := by simpa using hz
  rw [hl]
  by_cases h : q < len * n
  · have h1 : (Array.range (len * n)).toList[q]? = some q := by simp [h]
    have h2 : q % z.size < z.size := Nat.mod_lt _ (by omega)
    rw [if_pos h, h1]
    simp only [Option.map_some]
    rw [← hz]
    simp [h2]
  · have h1 : (Array.range (len * n)).toList[q]? = none := by simp; omega
    rw [if_neg h, h1]
    rfl
def zrep (z : Value) (len : Nat) : List AV := (List.replicate len (z.cells.toList.map constCell)).flatten
theorem zrep_VR {z : Value} {n len : Nat} (hz : z.cells.size = n) (hn : 0 < n) : VRs g (zrep z len) (madeCells z.cells (len * n)).toList := by
  rw [made_list hz hn]
  unfold zrep
  induction len with
  | zero => simp; exact VRs.nil
  | succ k ih =>
    rw [List.replicate_succ, List.replicate_succ, List.flatten_cons, List.flatten_cons]
    exact (constCells_VR g _).append ih
def evBuildSlice (P : Program) (lo : Nat) (M : Mem) (ak : Nat) (t : TypeId) (len : Nat) (parts : List (Nat × AV)) : Option (AV × Mem) :=
  match elemOf P t with
  | some (e, n, _) => match zeroOf P e with
    | some z => if z.cells.size = n ∧ 0 < n ∧ len * n ≤ 16777216 ∧ lo ≤ ak then match evFill (fun i => some (i * n, n)) (zrep z len) parts with
        | some cells => (putObj M ak (.row 0 n (chop n len cells))).map fun M' => (.so ak 0 0 len, M')
        | none => none
      else none
    | none => none
  | none => none
theorem evFill_length {place : Nat → Option (Nat × Nat)} : ∀ {parts : List (Nat × AV)} {cells out : List AV}, evFill place cells parts = some out → out.length = cells.length
  | [], cells, out, h => by simp [evFill] at h; rw [h]
  | (i, v) :: rest, cells, out, h => by
    simp only [evFill] at h
    split at h
    · split at h
      · rename_i hc
        rw [evFill_length h]
        simp [splice]; omega
      · cases h
    · cases h
theorem evBuildSlice_ok {ak len : Nat} {t : TypeId} {parts : List (Nat × AV)} {ps : Array (Nat × Value)} {d : AV} (h : evBuildSlice P lo M ak t len parts = some (d, M')) (hw : WR lo Fz wb g M w) (hp : PartsR g parts ps.toList) :
    ∃ v w' g', (Instr.buildSlice t len ps).run P w = .ok v w' ∧ VR g' d v ∧ WR lo Fz wb g' M' w' ∧ Step lo Fz g M g' M' := by
  unfold evBuildSlice at h
  split at h
  · rename_i e n bts hel
    obtain ⟨i, hu, hi, rfl, _⟩ := elemOf_ok hel
    split at h
    · rename_i z hz
      split at h
      · rename_i hc
        obtain ⟨h1, h2, h3, h4⟩ := hc
        split at h
        · rename_i cells hf
          rw [Option.map_eq_some_iff] at h
          obtain ⟨M1, hp1, h5⟩ := h
          simp only [Prod.mk.injEq] at h5
          obtain ⟨rfl, rfl⟩ := h5
          simp [zeroOf, hi] at hz
          obtain ⟨vs, q1, q2⟩ := fill_ok (vs := madeCells z.cells (len * i.size)) hf hp (zrep_VR h1 h2)
          have hvl : vs.size = len * i.size := by
            have e1 := q2.length
            have e2 := evFill_length hf
            have e3 := (zrep_VR (g := g) (len := len) h1 h2).length
            simp [size_madeCells] at e1 e3
            omega
          have hlen : len ≤ 16777216 := Nat.le_trans (Nat.le_mul_of_pos_right _ h2) h3
          obtain ⟨r1, r2⟩ := hw.newRow (T := e) (vs := vs) (c := len) hp1 h4 h2 (by rw [chop_length]; exact Nat.le_refl _) (by simp only [maxLen]; omega) (by omega) (chop_V q2 (by simp; omega)) (.inl rfl)
          refine ⟨.slice (some ⟨w.heap.size, 0, none⟩) len len, _, _, ?_, ?_, r1, r2⟩
          · have h6 : ¬ (len * i.size > 2 ^ 24) := by omega
            by_cases h0 : len * i.size = 0
            · rw [h0] at q1
              have e0 : madeCells z.cells 0 = (Array.range 0).map (fun x => (#[] : Array Value)[x % 0]!) := by simp [madeCells]
              rw [e0] at q1
              simp [Instr.buildSlice, run_underlying hu, sizeOf, typeInfo, hi, h0, newRow] at q1 ⊢
              simp [q1]
            · have h7 : ¬ (16777216 < len * i.size) := by omega
              simp [Instr.buildSlice, run_underlying hu, sizeOf, typeInfo, hi, h0, h7, zeroValue, hz, newRow]
              rw [show (Array.range (len * i.size)).map (fun x => z.cells[x % z.cells.size]!) = madeCells z.cells (len * i.size) from rfl, q1]
              simp
          · unfold VR
            have hak := (putObj_get hp1).1
            exact ⟨by simp [Gh.lay]; omega, _, by simp [Gh.lay]; rfl, .inr ⟨_, ⟨w.heap.size, 0, none⟩, rfl, by simp, by simp, by simp⟩⟩
        · cases h
      · cases h
    · cases h
  · cases h
end
end Go.Ag
/- ABSTRACT RUNS, MAPS whose keys are numbers or strings; slices made of zero values. -/
namespace Go.Ag
open Go.RowKit
def keyD : TypeDesc → Bool
  | .int _ => true
  | .string => true
  | _ => false
def mapTy (P : Program) (t : TypeId) : Option (TypeDesc × TypeId) :=
  match P.underlying t with
  | some (.map k e) => match P.underlying k with
    | some d => if keyD d = true then some (d, e) else none
    | none => none
  | _ => none
def sameKey : Value → Value → Option Bool
  | .int k a, .int k' b => if k = k' then some (a == b) else none
  | .string a, .string b => some (a == b)
  | _, _ => none
def isKey (d : TypeDesc) (v : Value) : Bool :=
  match d, v with
  | .int _, .int _ _ => true
  | .string, .string _ => true
  | _, _ => false
def mfind (key : Value) : Nat → List (Value × AV) → Option (Option (Nat × AV))
  | _, [] => some none
  | i, e :: es => match sameKey key e.1 with
    | some true => some (some (i, e.2))
    | some false => mfind key (i + 1) es
    | none => none
section
variable {P : Program} {lo : Nat} {Fz : Nat → Prop} {wb : World} {g : Gh} {M M' : Mem} {w : World}
theorem mapTy_ok {t e : TypeId} {d : TypeDesc} (h : mapTy P t = some (d, e)) : ∃ k, P.underlying t = some (.map k e) ∧ P.underlying k = some d ∧ keyD d = true := by
  unfold mapTy at h
  split at h
  · rename_i k e' hu
    split at h
    · rename_i d' hd
      split at h
      · rename_i hk
        simp at h
        obtain ⟨rfl, rfl⟩ := h
        exact ⟨k, hu, hd, hk⟩
      · cases h
    · cases h
  · cases h
theorem sameNow_eq {d : TypeDesc} {a b : Value} (hk : isKey d a = true) (h : (sameKey a b).isSome = true) : Instr.sameNow d a b = sameKey a b := by
  unfold isKey at hk
  split at hk
  · cases b <;> simp [sameKey] at h ⊢ <;> simp [Instr.sameNow]
  · cases b <;> simp [sameKey] at h ⊢ <;> simp [Instr.sameNow]
  · cases hk
theorem mfind_ok {d : TypeDesc} {key : Value} (hk : isKey d key = true) : ∀ {es : List (Value × AV)} {l : List MapEntry} {i : Nat} {r : Option (Nat × AV)}, mfind key i es = some r → EntR g es l →
    ∃ r', Instr.findNow d key l i = some r' ∧ match r with
      | none => r' = none
      | some (j, a) => ∃ v, r' = some (j, v) ∧ VR g a v ∧ i ≤ j ∧ ∃ e m, es[j - i]? = some e ∧ l[j - i]? = some m ∧ sameKey key e.1 = some true ∧ m.key = e.1 ∧ e.2 = a ∧ m.val = v
  | [], l, i, r, h, hl => by
    simp [mfind] at h; subst h
    have : l = [] := hl
    subst this
    exact ⟨none, rfl, rfl⟩
  | e :: es, l, i, r, h, hl => by
    obtain ⟨m, ms, rfl, h1, h2, h3⟩ := hl
    simp only [mfind] at h
    have hs : ∀ b, sameKey key e.1 = some b → Instr.sameNow d key m.key = some b := fun b hb => by
      rw [h1, sameNow_eq hk (by rw [hb]; rfl), hb]
    split at h
    · rename_i hb
      simp at h; subst h
      refine ⟨some (i, m.val), by simp [Instr.findNow, hs _ hb], m.val, rfl, h2, Nat.le_refl _, e, m, by simp, by simp, hb, h1, rfl, rfl⟩
    · rename_i hb
      obtain ⟨r', q1, q2⟩ := mfind_ok hk h h3
      refine ⟨r', by simp [Instr.findNow, hs _ hb, q1], ?_⟩
      cases r with
      | none => exact q2
      | some ja =>
        obtain ⟨j, a⟩ := ja
        obtain ⟨v, z1, z2, z3, e', m', z4, z5, z6⟩ := q2
        refine ⟨v, z1, z2, by omega, e', m', ?_, ?_, z6⟩
        · rw [show j - i = (j - (i + 1)) + 1 by omega]; simpa using z4
        · rw [show j - i = (j - (i + 1)) + 1 by omega]; simpa using z5
    · cases h
theorem checkKey_ok {k : TypeId} {d : TypeDesc} {v : Value} {emp : Bool} (hd : P.underlying k = some d) (hkd : keyD d = true) : (Instr.checkKey emp 10000 k v).run P w = .ok () w := by
  rw [show (10000 : Nat) = 9999 + 1 from rfl]
  unfold Instr.checkKey
  rw [Sem.run_bind, run_underlying hd]
  unfold keyD at hkd
  split at hkd
  · simp
  · simp
  · cases hkd
theorem findKey_ok {k : TypeId} {d : TypeDesc} {key : Value} {l : List MapEntry} {r : Option (Nat × Value)} (hd : P.underlying k = some d) (h : Instr.findNow d key l 0 = some r) : (Instr.findKey k key l).run P w = .ok r w := by
  simp [Instr.findKey, run_underlying hd, h]
def evLookup (P : Program) (M : Mem) (t : TypeId) (x i : AV) (ok : Bool) : Option AV :=
  match mapTy P t, i.val with
  | some (d, e), some key => if isKey d key = true then
      match (match x with
        | .mp k => match M[k]? with
          | some (.mp es) => some es
          | _ => none
        | .v (.map none) => some []
        | .imp keys vals => some (keys.zip vals)
        | _ => none : Option (List (Value × AV))) with
      | some es => match mfind key 0 es with
        | some (some (_, a)) => some (if ok then .tup [a, .v (.bool true)] else a)
        | some none => (zeroOf P e).map fun z => if ok then .tup [constAV z, .v (.bool false)] else constAV z
        | none => none
      | none => none
    else none
  | _, _ => none
theorem lookup_run {t k e : TypeId} {d : TypeDesc} {y key : Value} {l : Array MapEntry} {ok : Bool} (hu : P.underlying t = some (.map k e)) (hd : P.underlying k = some d) (hkd : keyD d = true)
    (hy : (y = .map none ∧ l = #[]) ∨ ∃ b cl, y = .map (some b) ∧ w.heap[b]? = some (.map l cl)) {r : Option (Nat × Value)} (hf : Instr.findNow d key l.toList 0 = some r) :
    (Instr.lookup t y key ok).run P w = match r with
      | some (_, v) => .ok (if ok then .tuple #[v, .bool true] else v) w
      | none => ((zeroValue e).run P w).andThen fun z w => .ok (if ok then .tuple #[z, .bool false] else z) w := by
  have hc := fun emp => checkKey_ok (P := P) (w := w) (v := key) (emp := emp) hd hkd
  have hk := findKey_ok (P := P) (w := w) hd hf
  have hget : ∀ b cl, w.heap[b]? = some (.map l cl) → (getObj b).run P w = .ok (.map l cl) w := by
    intro b cl h
    simp [getObj, Sem.run, h]
  rcases hy with ⟨rfl, rfl⟩ | ⟨b, cl, rfl, hh⟩
  · cases r with
    | none => simp [Instr.lookup, run_underlying hu, hc] at hk ⊢; simp [hk]
    | some x => obtain ⟨j, v⟩ := x; simp [Instr.lookup, run_underlying hu, hc] at hk ⊢; simp [hk]
  · cases r with
    | none => simp [Instr.lookup, run_underlying hu, hc, hget b cl hh, hk]
    | some x => obtain ⟨j, v⟩ := x; simp [Instr.lookup, run_underlying hu, hc, hget b cl hh, hk]
theorem EntR_zip : ∀ {keys : List Value} {vals : List AV} {l : List MapEntry}, l.map (·.key) = keys → VRs g vals (l.map (·.val)) → EntR g (keys.zip vals) l
  | keys, vals, [], hk, hv => by
    simp at hk; subst hk
    simp; rfl
  | keys, [], m :: ms, hk, hv => by
    unfold VRs at hv
    simp at hv
  | keys, v :: vs, m :: ms, hk, hv => by
    simp only [List.map_cons] at hk hv
    subst hk
    unfold VRs at hv
    obtain ⟨v', vs', e, h2, h3⟩ := hv
    simp only [List.cons.injEq] at e
    obtain ⟨rfl, rfl⟩ := e
    simp only [List.zip_cons_cons]
    exact ⟨m, ms, rfl, rfl, h2, EntR_zip rfl h3⟩
theorem evLookup_ok {t : TypeId} {x i d : AV} {y u : Value} {ok : Bool} (h : evLookup P M t x i ok = some d) (hw : WR lo Fz wb g M w) (hx : VR g x y) (hi : VR g i u) : ∃ z, (Instr.lookup t y u ok).run P w = .ok z w ∧ VR g d z := by
  unfold evLookup at h
  split at h
  · rename_i dd e key hm hk
    obtain ⟨k, hu, hd, hkd⟩ := mapTy_ok hm
    have := hi.val hk
    subst this
    split at h
    · rename_i hik
      split at h
      · rename_i es hes
        obtain ⟨l, hl, hy⟩ : ∃ l : Array MapEntry, EntR g es l.toList ∧ ((y = .map none ∧ l = #[]) ∨ ∃ b cl, y = .map (some b) ∧ w.heap[b]? = some (.map l cl)) := by
          split at hes
          · rename_i k'
            split at hes
            · rename_i es' hM
              simp at hes; subst hes
              unfold VR at hx
              obtain ⟨_, b, hb, rfl⟩ := hx
              obtain ⟨b', l, cl, e1, e2, e3⟩ := hw.obj _ _ hM
              rw [hb] at e1; cases e1
              exact ⟨l, e3, .inr ⟨b, cl, rfl, e2⟩⟩
            · cases hes
          · simp at hes; subst hes
            unfold VR at hx
            exact ⟨#[], rfl, .inl ⟨hx, rfl⟩⟩
          · simp at hes; subst hes
            unfold VR at hx
            obtain ⟨b, l, rfl, e2, e3, e4⟩ := hx
            obtain ⟨cl, e5⟩ := hw.imm2 _ _ e2
            exact ⟨l.toArray, by simpa using EntR_zip e3 e4, .inr ⟨b, cl, rfl, e5⟩⟩
          · cases hes
        split at h
        · rename_i j a hf
          simp at h; subst h
          obtain ⟨r', q1, v, rfl, q2, _⟩ := mfind_ok hik hf hl
          refine ⟨_, lookup_run hu hd hkd hy q1, ?_⟩
          cases ok
          · exact q2
          · unfold VR; exact ⟨#[v, .bool true], rfl, VRs.cons q2 (VRs.one (by unfold VR; rfl))⟩
        · rename_i hf
          rw [Option.map_eq_some_iff] at h
          obtain ⟨z, hz, rfl⟩ := h
          obtain ⟨r', q1, rfl⟩ := mfind_ok hik hf hl
          have hzr : (zeroValue e).run P w = .ok z w := by
            unfold zeroOf at hz
            cases hi : P.info? e with
            | none => simp [hi] at hz
            | some i =>
              simp [hi] at hz
              simp [zeroValue, typeInfo, hi, hz]
          refine ⟨_, by rw [lookup_run hu hd hkd hy q1, hzr]; rfl, ?_⟩
          cases ok
          · exact constAV_VR g z
          · unfold VR; exact ⟨#[z, .bool false], rfl, VRs.cons (constAV_VR g z) (VRs.one (by unfold VR; rfl))⟩
        · cases h
      · cases h
    · cases h
  · cases h
def evInsert (P : Program) (bs : List Nat) (lo : Nat) (M : Mem) (t : TypeId) (x i y : AV) : Option Mem :=
  match mapTy P t, i.val, x with
  | some (d, _), some key, .mp k => match M[k]? with
    | some (.mp es) => if isKey d key = true ∧ lo ≤ k ∧ bsOK bs k [y] = true then match mfind key 0 es with
        | some (some (j, _)) => some (M.set k (.mp (es.set j (key, y))))
        | some none => some (M.set k (.mp (es ++ [(key, y)])))
        | none => none
      else none
    | _ => none
  | _, _, _ => none
theorem EntR.append {es : List (Value × AV)} {l : List MapEntry} (h : EntR g es l) {key : Value} {a : AV} {v : Value} {c : Nat} (hv : VR g a v) : EntR g (es ++ [(key, a)]) (l ++ [{ key := key, val := v, born := c }]) := by
  induction es generalizing l with
  | nil =>
    have : l = [] := h
    subst this
    exact ⟨_, [], rfl, rfl, hv, rfl⟩
  | cons e es ih =>
    obtain ⟨m, ms, rfl, h1, h2, h3⟩ := h
    exact ⟨m, _, rfl, h1, h2, ih h3⟩
theorem EntR.set {es : List (Value × AV)} {l : List MapEntry} (h : EntR g es l) {key : Value} {a : AV} {m : MapEntry} (hk : m.key = key) (hv : VR g a m.val) (j : Nat) : EntR g (es.set j (key, a)) (l.set j m) := by
  induction es generalizing l j with
  | nil =>
    have : l = [] := h
    subst this
    simp [EntR]
  | cons e es ih =>
    obtain ⟨m', ms, rfl, h1, h2, h3⟩ := h
    cases j with
    | zero => exact ⟨m, ms, rfl, hk, hv, h3⟩
    | succ j => exact ⟨m', _, rfl, h1, h2, ih h3 j⟩
theorem sameKey_bits {a b : Value} (h : sameKey a b = some true) : Instr.sameBits 10000 b a = true := by
  unfold sameKey at h
  split at h
  · split at h
    · rename_i e; subst e
      simp at h; subst h
      simp [Instr.sameBits]
    · cases h
  · rename_i a b
    have h' : (a.data == b.data) = true := Option.some.inj h
    simp only [Instr.sameBits]
    show (b.data == a.data) = true
    simp at h' ⊢
    exact h'.symm
  · cases h
theorem getObj_map {b cl : Nat} {l : Array MapEntry} (h : w.heap[b]? = some (.map l cl)) : (getObj b).run P w = .ok (.map l cl) w := by
  simp [getObj, Sem.run, h]
theorem setObj_map {b cl : Nat} {l : Array MapEntry} {o : Obj} (h : w.heap[b]? = some (.map l cl)) : (setObj b o).run P w = .ok () { w with heap := w.heap.setIfInBounds b o } := by
  simp [setObj, Sem.run, h]
theorem insert_run {t k e : TypeId} {d : TypeDesc} {key v : Value} {l : Array MapEntry} {b cl : Nat} (hu : P.underlying t = some (.map k e)) (hd : P.underlying k = some d) (hkd : keyD d = true) (hh : w.heap[b]? = some (.map l cl))
    {r : Option (Nat × Value)} (hf : Instr.findNow d key l.toList 0 = some r) (hs : ∀ j u, r = some (j, u) → ∃ m, l[j]? = some m ∧ Instr.sameBits 10000 m.key key = true) :
    (Instr.mapUpdate t (.map (some b)) key v).run P w = .ok () { w with heap := w.heap.setIfInBounds b (match r with
      | some (j, _) => .map (l.modify j fun e => { e with key := key, val := v }) cl
      | none => .map (l.push { key := key, val := v, born := cl }) (cl + 1)) } := by
  have hc := fun emp => checkKey_ok (P := P) (w := w) (v := key) (emp := emp) hd hkd
  have hk := findKey_ok (P := P) (w := w) hd hf
  cases r with
  | none => simp [Instr.mapUpdate, run_underlying hu, hc, getObj_map hh, hk, setObj_map hh]
  | some x =>
    obtain ⟨j, u⟩ := x
    obtain ⟨m, hm, hb⟩ := hs j u rfl
    simp [Instr.mapUpdate, run_underlying hu, hc, getObj_map hh, hk, setObj_map hh, hm, Instr.keyThatStays, hb]
theorem evInsert_ok {t : TypeId} {x i y : AV} {p u v : Value} {bs : List Nat} (h : evInsert P bs lo M t x i y = some M') (hw : WR lo Fz wb g M w) (hx : VR g x p) (hi : VR g i u) (hy : VR g y v) :
    ∃ w', (Instr.mapUpdate t p u v).run P w = .ok () w' ∧ WR lo Fz wb g M' w' ∧ Step lo Fz g M g M' := by
  unfold evInsert at h
  split at h
  · rename_i d e key k hm hk
    obtain ⟨kt, hu, hd, hkd⟩ := mapTy_ok hm
    have := hi.val hk
    subst this
    split at h
    · rename_i es hM
      split at h
      · rename_i hc
        obtain ⟨hik, hlo, _⟩ := hc
        unfold VR at hx
        obtain ⟨_, b, hb, rfl⟩ := hx
        obtain ⟨b', l, cl, e1, e2, e3⟩ := hw.obj _ _ hM
        rw [hb] at e1; cases e1
        have hbl := heap_lt e2
        split at h
        · rename_i j a hf
          simp at h; subst h
          obtain ⟨r', q1, v', rfl, q2, _, e', m, z1, z2, z3, z4, _⟩ := mfind_ok hik hf e3
          have hmj : l[j]? = some m := by simpa using z2
          refine ⟨_, insert_run hu hd hkd e2 q1 (fun j' u' e => by simp at e; obtain ⟨rfl, rfl⟩ := e; exact ⟨m, hmj, by rw [z4]; exact sameKey_bits z3⟩), hw.setMap hM hlo hb hbl ?_⟩
          have e5 : (l.modify j fun e => { e with key := u, val := v }).toList = l.toList.set j { m with key := u, val := v } := by
            apply List.ext_getElem?
            intro q
            simp only [Array.getElem?_toList, Array.getElem?_modify, List.getElem?_set]
            by_cases hq : j = q
            · subst hq
              obtain ⟨hlt, hv⟩ := Array.getElem?_eq_some_iff.1 hmj
              simp [hmj, hlt, hv]
            · simp [hq]
          rw [e5]
          exact e3.set (m := { m with key := u, val := v }) rfl hy j
        · rename_i hf
          simp at h; subst h
          obtain ⟨r', q1, rfl⟩ := mfind_ok hik hf e3
          refine ⟨_, insert_run hu hd hkd e2 q1 (fun j' u' e => by cases e), hw.setMap hM hlo hb hbl ?_⟩
          simpa using e3.append hy
        · cases h
      · cases h
    · cases h
  · cases h
end
end Go.Ag
/- ABSTRACT RUNS: slices made; type assertions. -/
namespace Go.Ag
open Go.RowKit
def evMake (P : Program) (lo : Nat) (M : Mem) (ak : Nat) (t : TypeId) (l c : AV) : Option (AV × Mem) :=
  match elemOf P t, intOfAV l, intOfAV c with
  | some (e, n, bts), some l, some c => match zeroOf P e with
    | some z => if z.cells.size = n ∧ 0 < n ∧ 0 ≤ l ∧ l ≤ c ∧ (bts : Int) * c ≤ 281474976710656 ∧ c ≤ 9223372036854775807 ∧ lo ≤ ak then
        (putObj M ak (.row 0 n (List.replicate c.toNat (z.cells.toList.map constCell)))).map fun M' => (.so ak 0 0 l.toNat, M')
      else none
    | none => none
  | _, _, _ => none
def evAssert (P : Program) (x : AV) (t : TypeId) (ok : Bool) : Option AV :=
  match isIface P t with
  | some false => match x with
    | .ifc t' u => if t' = t then some (if ok then .tup [u, .v (.bool true)] else u) else if ok then (zeroOf P t).map fun z => .tup [constAV z, .v (.bool false)] else none
    | .v .nilIface => if ok then (zeroOf P t).map fun z => .tup [constAV z, .v (.bool false)] else none
    | _ => none
  | _ => none
section
variable {P : Program} {lo : Nat} {Fz : Nat → Prop} {wb : World} {g : Gh} {M M' : Mem} {w : World}
theorem RowsV_rep {n : Nat} {z : List AV} {vs : List Value} (h : VRs g z vs) (hz : vs.length = n) : ∀ len, RowsV g n (List.replicate len z) (List.replicate len vs).flatten
  | 0 => trivial
  | len + 1 => by
    rw [List.replicate_succ, List.replicate_succ, List.flatten_cons]
    unfold RowsV
    refine ⟨by simp; omega, by rw [← hz, List.take_left]; exact h, ?_⟩
    rw [← hz, List.drop_left, hz]
    exact RowsV_rep h hz len
theorem evMake_ok {ak : Nat} {t : TypeId} {l c d : AV} {y z : Value} (h : evMake P lo M ak t l c = some (d, M')) (hw : WR lo Fz wb g M w) (hl : VR g l y) (hc : VR g c z) :
    ∃ v w' g', (Instr.makeSlice t y z).run P w = .ok v w' ∧ VR g' d v ∧ WR lo Fz wb g' M' w' ∧ Step lo Fz g M g' M' := by
  unfold evMake at h
  split at h
  · rename_i e n bts l' c' hel hl' hc'
    obtain ⟨i, hu, hi, rfl, hb⟩ := elemOf_ok hel
    obtain ⟨kl, rfl⟩ := intOfAV_ok hl' hl
    obtain ⟨kc, rfl⟩ := intOfAV_ok hc' hc
    split at h
    · rename_i z hz
      split at h
      · rename_i hcond
        obtain ⟨h1, h2, h3, h4, h5, h6, h7⟩ := hcond
        rw [Option.map_eq_some_iff] at h
        obtain ⟨M1, hp1, hh⟩ := h
        simp only [Prod.mk.injEq] at hh
        obtain ⟨rfl, rfl⟩ := hh
        simp [zeroOf, hi] at hz
        have hlist : (madeCells z.cells (c'.toNat * i.size)).toList = (List.replicate c'.toNat z.cells.toList).flatten := made_list h1 h2
        obtain ⟨r1, r2⟩ := hw.newRow (T := e) (vs := madeCells z.cells (c'.toNat * i.size)) (c := c'.toNat) hp1 h7 h2 (by simp) (by simp only [maxLen]; omega) (by rw [size_madeCells]; exact Nat.le_refl _)
          (by rw [hlist]; exact RowsV_rep (constCells_VR g _) (by simpa using h1) _) (.inl rfl)
        refine ⟨.slice (some ⟨w.heap.size, 0, none⟩) l'.toNat c'.toNat, _, _, run_make w t e i z hu hi hz kl kc l' c' h3 h4 (by rw [hb]; exact h5) h6, ?_, r1, r2⟩
        unfold VR
        have hak := (putObj_get hp1).1
        exact ⟨by simp [Gh.lay]; omega, _, by simp [Gh.lay]; rfl, .inr ⟨_, ⟨w.heap.size, 0, none⟩, rfl, by simp; omega, by simp, by simp⟩⟩
      · cases h
    · cases h
  · cases h
theorem isIface_false {t : TypeId} (h : isIface P t = some false) : ∃ d, P.underlying t = some d ∧ ∀ m, d ≠ .interface m := by
  unfold isIface at h
  split at h
  · cases h
  · rename_i d hn hd
    exact ⟨d, hd, fun m e => hn m e⟩
  · cases h
theorem evAssert_ok {x d : AV} {y : Value} {xt t : TypeId} {ok : Bool} (h : evAssert P x t ok = some d) (hx : VR g x y) : ∃ v, (Instr.typeAssert y xt t ok).run P w = .ok v w ∧ VR g d v := by
  unfold evAssert at h
  split at h
  · rename_i hif
    obtain ⟨dd, hu, hn⟩ := isIface_false hif
    have two : ∀ z, zeroOf P t = some z → VR g (.tup [constAV z, .v (.bool false)]) (.tuple #[z, .bool false]) := by
      intro z hz
      unfold VR
      exact ⟨_, rfl, VRs.cons (constAV_VR g z) (VRs.one (by unfold VR; rfl))⟩
    split at h
    · rename_i t' u
      unfold VR at hx
      obtain ⟨u', rfl, hu'⟩ := hx
      split at h
      · rename_i e
        subst e
        simp only [Option.some.injEq] at h
        subst h
        cases ok with
        | true =>
          refine ⟨.tuple #[u', .bool true], ?_, by unfold VR; exact ⟨_, rfl, VRs.cons hu' (VRs.one (by unfold VR; rfl))⟩⟩
          cases dd with
          | interface m => exact absurd rfl (hn m)
          | _ => simp [Instr.typeAssert, run_underlying hu]
        | false =>
          refine ⟨u', ?_, hu'⟩
          cases dd with
          | interface m => exact absurd rfl (hn m)
          | _ => simp [Instr.typeAssert, run_underlying hu]
      · rename_i e
        split at h
        · rename_i hok
          subst hok
          rw [Option.map_eq_some_iff] at h
          obtain ⟨z, hz, rfl⟩ := h
          refine ⟨_, ?_, two z hz⟩
          have hzz : (zeroValue t).run P w = .ok z w := by
            unfold zeroOf at hz
            rw [Option.bind_eq_some_iff] at hz
            obtain ⟨i, h1, h2⟩ := hz
            simp [zeroValue, typeInfo, h1, h2]
          cases dd with
          | interface m => exact absurd rfl (hn m)
          | _ => simp [Instr.typeAssert, run_underlying hu, e, hzz]
        · cases h
    · unfold VR at hx
      subst hx
      split at h
      · rename_i hok
        subst hok
        rw [Option.map_eq_some_iff] at h
        obtain ⟨z, hz, rfl⟩ := h
        refine ⟨_, ?_, two z hz⟩
        have hzz : (zeroValue t).run P w = .ok z w := by
          unfold zeroOf at hz
          rw [Option.bind_eq_some_iff] at hz
          obtain ⟨i, h1, h2⟩ := hz
          simp [zeroValue, typeInfo, h1, h2]
        cases dd with
        | interface m => exact absurd rfl (hn m)
        | _ => simp [Instr.typeAssert, run_underlying hu, hzz]
      · cases h
    · cases h
  · cases h
end
end Go.Ag
/- ABSTRACT RUNS, FIELDS OF VALUES: a struct's field, read of the struct itself. -/
namespace Go.Ag
open Go.RowKit
def fieldAt (P : Program) (s : TypeId) (f : Nat) : Option (Nat × Bool × Nat) :=
  match P.underlying s with
  | some (.struct fields) => match fields[f]? with
    | some fl => match P.info? fl.type, P.underlying fl.type with
      | some i, some d => some (fl.offset, isRow d, i.size)
      | _, _ => none
    | none => none
  | _ => none
def evField (P : Program) (s : TypeId) (f : Nat) : AV → Option AV
  | .agg cs => match fieldAt P s f with
    | some (o, true, n) => some (.agg ((cs.drop o).take n))
    | some (o, false, _) => cs[o]?
    | none => none
  | _ => none
theorem evField_ok {P : Program} {g : Gh} {s : TypeId} {f : Nat} {x d : AV} {y : Value} {w : World} (h : evField P s f x = some d) (hx : VR g x y) : ∃ v, (Instr.field s y f).run P w = .ok v w ∧ VR g d v := by
  unfold evField at h
  split at h
  · rename_i cs
    unfold VR at hx
    obtain ⟨vs, rfl, hvs⟩ := hx
    cases hat : fieldAt P s f with
    | none => rw [hat] at h; cases h
    | some r =>
      obtain ⟨o, b, n⟩ := r
      rw [hat] at h
      unfold fieldAt at hat
      split at hat
      · rename_i fields hu
        split at hat
        · rename_i fl hfl
          split at hat
          · rename_i i dd hi hd
            simp only [Option.some.injEq, Prod.mk.injEq] at hat
            obtain ⟨rfl, hb, rfl⟩ := hat
            have hag : (isAgg fl.type).run P w = .ok (isRow dd) w := by
              unfold isAgg
              rw [Sem.run_bind, run_underlying hd]
              cases dd <;> rfl
            cases b with
            | true =>
              simp only [Option.some.injEq] at h
              subst h
              refine ⟨.agg (vs.extract fl.offset (fl.offset + i.size)), ?_, ?_⟩
              · simp [Instr.field, run_underlying hu, hfl, asAgg, part, Sem.run_bind, hag, hb, sizeOf, typeInfo, hi]
              · unfold VR
                refine ⟨_, rfl, ?_⟩
                have := (hvs.drop fl.offset).takeN i.size
                rw [Array.toList_extract]
                simpa [List.extract_eq_take_drop] using this
            | false =>
              simp only at h
              obtain ⟨v, h1, h2⟩ := hvs.get h
              have h1' : vs[fl.offset]? = some v := by simpa using h1
              exact ⟨v, by simp [Instr.field, run_underlying hu, hfl, asAgg, part, Sem.run_bind, hag, hb, h1'], h2⟩
          · cases hat
        · cases hat
      · cases hat
  · cases h
end Go.Ag
/- ABSTRACT RUNS, THE OPERATIONS TOGETHER: one operation that calls nothing. -/
namespace Go.Ag
open Go.RowKit
def evIndexAddr (P : Program) (M : Mem) (t : TypeId) (x : AV) (j : Int) : Option AV :=
  match elemOf P t with
  | some (_, n, _) => if 0 ≤ j then match x with
      | .sl rows _ => match rows[j.toNat]? with
        | some r => if r.length = n then some (.ip r) else none
        | none => none
      | .slw rows => match rows[j.toNat]? with
        | some r => if r.length = n then some (.iw r) else none
        | none => none
      | .so k ver off len => match M[k]? with
        | some (.row ver' esz _) => if ver' = ver ∧ esz = n ∧ 0 < n ∧ j.toNat < len then some (.rp k ver (off + j.toNat) 0) else none
        | _ => none
      | _ => none
    else none
  | none => none
def evLen : AV → Option Nat
  | .sl rows _ => some rows.length
  | .so _ _ _ len => some len
  | .slw rows => some rows.length
  | .emp => some 0
  | .v (.slice none 0 0) => some 0
  | _ => none
def evFieldAddr (P : Program) (M : Mem) (s : TypeId) (f : Nat) (x : AV) : Option AV :=
  match fieldOff P s f, x with
  | some off, .ptr k o => some (.ptr k (o + off))
  | some off, .ip cs => some (.ip (cs.drop off))
  | some off, .iw cs => some (.iw (cs.drop off))
  | some off, .rp k ver i o => match M[k]? with
    | some (.row ver' esz _) => if ver' = ver ∧ o + off < esz then some (.rp k ver i (o + off)) else none
    | _ => none
  | _, _ => none
inductive CvK where
  | toBytes
  | toStr
  | other
def convK (P : Program) (s d : TypeId) : CvK :=
  match P.underlying s, P.underlying d with
  | some .string, some (.slice e) => match P.underlying e with
    | some (.int .u8) => .toBytes
    | _ => .other
  | some (.slice e), some .string => match P.underlying e with
    | some (.int .u8) => .toStr
    | _ => .other
  | _, _ => .other
def nilEq (P : Program) (op : BinOp) (t : TypeId) (x : AV) (b : Value) : Option AV :=
  match op, x, b with
  | .eql, .sl _ (_ :: _), .slice none 0 0 => match P.underlying t with
    | some (.slice _) => some (.v (.bool false))
    | _ => none
  | _, _, _ => none
def evOp1 (P : Program) (bs : List Nat) (lo : Nat) (M : Mem) (ak : Nat) (ev : Operand → AV) (o : Oper) : Option (AV × Mem) :=
  match o.op with
  | .move x | .assign x => some (ev x, M)
  | .pick c a b => match ev c with
    | .v (.bool t) => some (if t then ev a else ev b, M)
    | _ => none
  | .alloc t => match zeroOf P t with
    | some z => if lo ≤ ak then (putObj M ak (.cells (z.cells.toList.map constCell))).map fun M' => (.ptr ak 0, M') else none
    | none => none
  | .box _ x => match (ev x).cells with
    | some cs => if lo ≤ ak then (putObj M ak (.cells cs)).map fun M' => (.ptr ak 0, M') else none
    | none => none
  | .load t x => (evLoad P M t (ev x)).map fun d => (d, M)
  | .store t x y => (evStore P bs lo M t (ev x) (ev y)).map fun M' => (.any, M')
  | .nilCheck x => match ev x with
    | .ptr k off => some (.ptr k off, M)
    | .ip cs => some (.ip cs, M)
    | .rp k ver i f => some (.rp k ver i f, M)
    | .fn (.func f) fi ca => some (.fn (.func f) fi ca, M)
    | _ => none
  | .binOp op t x y _ => match (ev x).val, (ev y).val with
    | some a, some b => (pureRun P (do eqGuard op t x y a b; binOp op t a b)).map fun v => (.v v, M)
    | none, some b => (nilEq P op t (ev x) b).map fun d => (d, M)
    | _, none => none
  | .unOp op _ x => match (ev x).val with
    | some a => (pureRun P (Op.unary op a)).map fun v => (.v v, M)
    | none => none
  | .convert s d x => match convK P s d with
    | .toBytes => match ev x with
      | .v (.string t) => some (.sl (bRows t.data.toList) [], M)
      | _ => none
    | .toStr => match rowsOf M 1 (ev x) with
      | some rows => (bytesOf rows).map fun l => (.v (.string ⟨l.toArray⟩), M)
      | none => none
    | .other => match (ev x).val with
      | some a => (pureRun P (convert s d a)).map fun v => (.v v, M)
      | none => none
  | .build t parts => (evBuild P t (parts.toList.map fun p => (p.1, ev p.2))).map fun d => (d, M)
  | .buildSlice t len parts => evBuildSlice P lo M ak t len (parts.toList.map fun p => (p.1, ev p.2))
  | .slice t x l h m => match bndOf ev l, bndOf ev h, bndOf ev m with
    | some l, some h, some m => (evSlice P M t (ev x) l h m).map fun d => (d, M)
    | _, _, _ => none
  | .makeMap _ none => if lo ≤ ak then (putObj M ak (.mp [])).map fun M' => (.mp ak, M') else none
  | .insert t m k x => (evInsert P bs lo M t (ev m) (ev k) (ev x)).map fun M' => (.any, M')
  | .mapUpdate t m k x => (evInsert P bs lo M t (ev m) (ev k) (ev x)).map fun M' => (.any, M')
  | .lookup t x i ok => (evLookup P M t (ev x) (ev i) ok).map fun d => (d, M)
  | .makeInterface t x => match isIface P t with
    | some false => some (.ifc t (ev x), M)
    | _ => none
  | .makeFunc fn first caps => some (.fn fn (first.toList.map ev) (caps.toList.map ev), M)
  | .fieldAddr s x f => (evFieldAddr P M s f (ev x)).map fun d => (d, M)
  | .field s x f => (evField P s f (ev x)).map fun d => (d, M)
  | .indexAddr t x i => match intOfAV (ev i) with
    | some j => (evIndexAddr P M t (ev x) j).map fun d => (d, M)
    | none => none
  | .index t x i => match (ev x).val, (ev i).val with
    | some a, some b => (pureRun P (Instr.index t a b)).map fun v => (.v v, M)
    | _, _ => none
  | .makeSlice t l c => evMake P lo M ak t (ev l) (ev c)
  | .typeAssert x _ t ok => (evAssert P (ev x) t ok).map fun d => (d, M)
  | .extract x i => match ev x with
    | .tup xs => (xs[i]?).map fun d => (d, M)
    | _ => none
  | .call c => match c.callee with
    | .builtin b => match b with
      | .append => match c.args.toList.map ev, c.argTypes.toList with
        | [x, y], [t, t2] => evAppend P bs lo M ak t t2 x y
        | _, _ => none
      | .len => match c.args.toList.map ev, c.argTypes[0]? with
        | [.v (.string s)], some _ => (pureRun P (Builtin.len_ c.argTypes o.type #[.string s])).map fun v => (.v v, M)
        | [x], some t => if isSlice P t then (evLen x).map fun (n : Nat) => (.v (.int .i64 (n : Int)), M) else none
        | _, _ => none
      | .min => match AV.vals (c.args.toList.map ev) with
        | some l => (pureRun P (Builtin.min_ c.argTypes o.type l.toArray)).map fun v => (.v v, M)
        | none => none
      | .max => match AV.vals (c.args.toList.map ev) with
        | some l => (pureRun P (Builtin.max_ c.argTypes o.type l.toArray)).map fun v => (.v v, M)
        | none => none
      | _ => none
    | _ => none
  | _ => none
end Go.Ag
/- ABSTRACT RUNS, THE OPERATIONS TOGETHER: the machine's own comes to it. -/
namespace Go.Ag
open Go.RowKit
def Yields (P : Program) (o : Oper) (a : Act) (w : World) (v : Value) (w' : World) : Prop :=
  (execOp a.eval o).run P w = .ok (.value v) w' ∨ ((execOp a.eval o).run P w = .ok .skip w' ∧ v = undef)
section
variable {P : Program} {bs : List Nat} {lo : Nat} {Fz : Nat → Prop} {wb : World} {g : Gh} {M M' : Mem} {w : World} {ak : Nat} {ev : Operand → AV} {o : Oper} {a : Act} {d : AV}
theorem lift_val {s : Sem Value} {v : Value} {w' : World} (h : s.run P w = .ok v w') : (do pure (Next.value (← s)) : Sem Next).run P w = .ok (.value v) w' := by
  simp [Sem.run_bind, h]
theorem VRs_map {f : Operand → AV} {l : List Operand} (h : ∀ x ∈ l, VR g (f x) (a.eval x)) : VRs g (l.map f) (l.map a.eval) := by
  induction l with
  | nil => exact VRs.nil
  | cons x xs ih => exact VRs.cons (h x (by simp)) (ih fun y hy => h y (by simp [hy]))
theorem Addr.add_plain (b o n : Nat) : (⟨b, o, none⟩ : Addr).add n = ⟨b, o + n, none⟩ := by
  unfold Addr.add
  split <;> simp_all
theorem fieldAt_ok {s : TypeId} {f off b o : Nat} (h : fieldOff P s f = some off) : (Instr.fieldAt s (.pointer (some ⟨b, o, none⟩)) f).run P w = .ok (.pointer (some ⟨b, o + off, none⟩)) w := by
  unfold fieldOff at h
  split at h
  · rename_i fields hu
    split at h
    · rename_i fl hf
      split at h
      · rename_i i hi
        split at h
        · cases h
        · rename_i hz
          simp at h; subst h
          have hs : (sizeOf fl.type).run P w = .ok i.size w := by simp [sizeOf, typeInfo, hi]
          simp [Instr.fieldAt, Sem.run_bind, run_underlying hu, hf, Instr.sureAddr, fieldPlace, hs, hz, Addr.add_plain]
      · cases h
    · cases h
  · cases h
theorem evFieldAddr_ok {s : TypeId} {f : Nat} {x : AV} {y : Value} (h : evFieldAddr P M s f x = some d) (hw : WR lo Fz wb g M w) (hx : VR g x y) : ∃ z, (Instr.fieldAt s y f).run P w = .ok z w ∧ VR g d z := by
  unfold evFieldAddr at h
  split at h
  · rename_i off k o' hoff
    simp at h; subst h
    unfold VR at hx
    obtain ⟨h0, b, h1, rfl⟩ := hx
    exact ⟨_, fieldAt_ok hoff, by unfold VR; exact ⟨h0, b, h1, rfl⟩⟩
  · rename_i off cs hoff
    simp at h; subst h
    unfold VR at hx
    obtain ⟨b, o', vs, rfl, h2, h3⟩ := hx
    refine ⟨_, fieldAt_ok hoff, ?_⟩
    unfold VR
    refine ⟨b, o' + off, vs.drop off, rfl, h2.drop off, fun j v hj => ?_⟩
    rw [List.getElem?_drop] at hj
    rw [Nat.add_assoc]
    exact h3 _ _ hj
  · rename_i off cs hoff
    simp at h; subst h
    unfold VR at hx
    obtain ⟨b, o', vs, rfl, h2, h3⟩ := hx
    refine ⟨_, fieldAt_ok hoff, ?_⟩
    unfold VR
    refine ⟨b, o' + off, vs.drop off, rfl, h2.drop off, fun j a v ha hj => ?_⟩
    rw [List.getElem?_drop] at hj ha
    rw [Nat.add_assoc]
    exact h3 _ _ _ ha hj
  · rename_i off k ver i o' hoff
    split at h
    · rename_i ver' esz rows hM
      split at h
      · rename_i hc
        obtain ⟨rfl, hlt⟩ := hc
        simp at h; subst h
        unfold VR at hx
        obtain ⟨h0, B, hB, h1, h2, rfl⟩ := hx
        obtain ⟨z0, _⟩ := hw.rowAt hM hB
        refine ⟨_, fieldAt_ok hoff, ?_⟩
        unfold VR
        exact ⟨h0, B, hB, h1, by omega, by rw [Nat.add_assoc]⟩
      · cases h
    · cases h
  · cases h
theorem indexAt_run {t e : TypeId} {i : TypeInfo} {a : Addr} {len c : Nat} {k : IntKind} {j : Int} (hu : P.underlying t = some (.slice e)) (hi : P.info? e = some i) (h0 : 0 ≤ j) (hj : j.toNat < len) :
    (Instr.indexAt t (.slice (some a) len c) (.int k j)).run P w = .ok (.pointer (some (a.add (j.toNat * i.size)))) w := by
  have hs : (sizeOf e).run P w = .ok i.size w := by simp [sizeOf, typeInfo, hi]
  have hcond : 0 ≤ j ∧ j < (len : Int) := by omega
  simp [Instr.indexAt, asIntOf, Sem.run_bind, run_underlying hu, hs, hcond]
theorem evIndexAddr_ok {t : TypeId} {x : AV} {y : Value} {k : IntKind} {j : Int} (h : evIndexAddr P M t x j = some d) (hw : WR lo Fz wb g M w) (hx : VR g x y) : ∃ z, (Instr.indexAt t y (.int k j)).run P w = .ok z w ∧ VR g d z := by
  unfold evIndexAddr at h
  split at h
  · rename_i e n bts hel
    obtain ⟨i, hu, hi, rfl, _⟩ := elemOf_ok hel
    split at h
    · rename_i h0
      split at h
      · rename_i rows spare
        split at h
        · rename_i r hr
          split at h
          · rename_i hlen
            simp at h; subst h
            unfold VR at hx
            obtain ⟨A, c, esz, rfl, hle, hrows, _⟩ := hx
            obtain ⟨b, o', vs, rfl, hvl, hvs, hcells⟩ := hrows.get hr
            have hlt : j.toNat < rows.length := (List.getElem?_eq_some_iff.1 hr).1
            have hesz : esz = i.size := by have := hvs.length; omega
            refine ⟨_, indexAt_run hu hi h0 hlt, ?_⟩
            rw [Addr.add_plain]
            unfold VR
            exact ⟨b, _, vs, rfl, hvs, by rw [← hesz]; exact hcells⟩
          · cases h
        · cases h
      · rename_i rows
        split at h
        · rename_i r hr
          split at h
          · rename_i hlen
            simp at h; subst h
            unfold VR at hx
            obtain ⟨A, c, esz, rfl, hle, hrows⟩ := hx
            obtain ⟨b, o', vs, rfl, hvl, hvs, hcells⟩ := hrows.get hr
            have hlt : j.toNat < rows.length := (List.getElem?_eq_some_iff.1 hr).1
            have hesz : esz = i.size := by have := hvs.length; omega
            refine ⟨_, indexAt_run hu hi h0 hlt, ?_⟩
            rw [Addr.add_plain]
            unfold VR
            exact ⟨b, _, vs, rfl, hvs, by rw [← hesz]; exact hcells⟩
          · cases h
        · cases h
      · rename_i k' ver off len
        split at h
        · rename_i ver' esz rows hM
          split at h
          · rename_i hc
            obtain ⟨rfl, rfl, hn, hlt⟩ := hc
            simp at h; subst h
            unfold VR at hx
            obtain ⟨hkn, ob, hob, hx⟩ := hx
            rcases hx with ⟨rfl, rfl, rfl, A, rfl⟩ | ⟨B, a, rfl, hBc, rfl, haB⟩
            · omega
            · obtain ⟨z0, _⟩ := hw.rowAt hM hob
              refine ⟨_, indexAt_run hu hi h0 hlt, ?_⟩
              rw [haB (by omega), Addr.add_plain]
              unfold VR
              refine ⟨hkn, B, hob, by omega, by omega, ?_⟩
              rw [← z0, Nat.add_mul]
              congr 3
              omega
          · cases h
        · cases h
      · cases h
    · cases h
  · cases h
theorem evLen_ok {x : AV} {y : Value} {n : Nat} (h : evLen x = some n) (hx : VR g x y) : ∃ A c, y = .slice A n c := by
  unfold evLen at h
  split at h
  · simp at h; subst h
    unfold VR at hx
    obtain ⟨A, c, _, rfl, _⟩ := hx
    exact ⟨A, c, rfl⟩
  · simp at h; subst h
    unfold VR at hx
    obtain ⟨_, ob, _, hx⟩ := hx
    rcases hx with ⟨_, _, rfl, A, rfl⟩ | ⟨B, a, _, _, rfl, _⟩
    · exact ⟨A, 0, rfl⟩
    · exact ⟨_, _, rfl⟩
  · simp at h; subst h
    unfold VR at hx
    obtain ⟨A, c, _, rfl, _⟩ := hx
    exact ⟨A, c, rfl⟩
  · simp at h; subst h
    unfold VR at hx
    obtain ⟨A, rfl⟩ := hx
    exact ⟨A, 0, rfl⟩
  · simp at h; subst h
    unfold VR at hx
    exact ⟨none, 0, hx⟩
  · cases h
theorem pr_slnil {t : TypeId} {e : TypeId} {x y : Operand} {ad : Addr} {n c : Nat} (hu : P.underlying t = some (.slice e)) : pureRun P (do eqGuard .eql t x y (.slice (some ad) n c) (.slice none 0 0); binOp .eql t (.slice (some ad) n c) (.slice none 0 0)) = some (.bool false) := by
  have hb : ∀ {α β : Type} (s : Sem α) (f : α → Sem β), pureRun P (s >>= f) = (pureRun P s).bind fun a => pureRun P (f a) := by
    intro α β s f
    show pureRun P (s.bind f) = _
    induction s with
    | pure a => rfl
    | program k ih => simp only [Sem.bind, pureRun, ih]
    | mark m k ih => simp only [Sem.bind, pureRun, ih]
    | _ => rfl
  have hp : ∀ {α : Type} (a : α), pureRun P (pure a : Sem α) = some a := fun _ => rfl
  have hpr : pureRun P program = some P := rfl
  have hU : pureRun P (underlying t) = some (.slice e) := by
    unfold underlying
    simp only [hb, hpr, Option.bind_some, hu, hp]
  have hq : pureRun P (Op.equal t (.slice (some ad) n c) (.slice none 0 0)) = some false := by
    show pureRun P (Op.equalIn (9999 + 1) t _ _) = _
    rw [Op.equalIn]
    simp only [hb, hU, Option.bind_some, hp]
  have hg : pureRun P (eqGuard .eql t x y (.slice (some ad) n c) (.slice none 0 0)) = some () := rfl
  simp only [hb, hg, Option.bind_some, binOp, hq, hp]
theorem evOp1_sound (h : evOp1 P bs lo M ak ev o = some (d, M')) (hev : ∀ x, VR g (ev x) (a.eval x)) (hw : WR lo Fz wb g M w) :
    ∃ v w' g', Yields P o a w v w' ∧ VR g' d v ∧ WR lo Fz wb g' M' w' ∧ Step lo Fz g M g' M' := by
  have same : ∀ v, (execOp a.eval o).run P w = .ok (.value v) w → VR g d v → M' = M → ∃ v w' g', Yields P o a w v w' ∧ VR g' d v ∧ WR lo Fz wb g' M' w' ∧ Step lo Fz g M g' M' :=
    fun v h1 h2 e => ⟨v, w, g, .inl h1, h2, e ▸ hw, e ▸ Step.refl lo Fz g M⟩
  unfold evOp1 at h
  split at h
  · rename_i x ho
    simp at h; obtain ⟨rfl, rfl⟩ := h
    exact same _ (by simp [execOp, ho]) (hev x) rfl
  · rename_i x ho
    simp at h; obtain ⟨rfl, rfl⟩ := h
    exact same _ (by simp [execOp, ho]) (hev x) rfl
  · rename_i c x y ho
    split at h
    · rename_i t ht
      simp at h; obtain ⟨rfl, rfl⟩ := h
      have hc := hev c
      rw [ht] at hc
      unfold VR at hc
      refine same (if t then a.eval x else a.eval y) (by simp [execOp, ho, hc, asBool]) ?_ rfl
      cases t
      · exact hev y
      · exact hev x
    · cases h
  · rename_i t ho
    split at h
    · rename_i z hz
      split at h
      · rename_i hlo
        rw [Option.map_eq_some_iff] at h
        obtain ⟨M1, h1, h2⟩ := h
        simp only [Prod.mk.injEq] at h2
        obtain ⟨rfl, rfl⟩ := h2
        unfold zeroOf at hz
        cases hi : P.info? t with
        | none => simp [hi] at hz
        | some i =>
          simp [hi] at hz
          obtain ⟨q1, q2⟩ := hw.new (vs := z.cells) (T := t) h1 hlo (constCells_VR g _)
          refine ⟨.pointer (some ⟨w.heap.size, 0, none⟩), _, _, .inl ?_, ?_, q1, q2⟩
          · simp [execOp, ho, Instr.alloc, zeroValue, typeInfo, hi, hz, newVar, newRow]
          · unfold VR; exact ⟨by simp [Gh.bind]; omega, _, by simp [Gh.bind], rfl⟩
      · cases h
    · cases h
  · rename_i t x ho
    split at h
    · rename_i cs hcs
      split at h
      · rename_i hlo
        rw [Option.map_eq_some_iff] at h
        obtain ⟨M1, h1, h2⟩ := h
        simp only [Prod.mk.injEq] at h2
        obtain ⟨rfl, rfl⟩ := h2
        obtain ⟨q1, q2⟩ := hw.new (vs := (a.eval x).cells) (T := t) h1 hlo ((hev x).cells hcs)
        refine ⟨.pointer (some ⟨w.heap.size, 0, none⟩), _, _, .inl ?_, ?_, q1, q2⟩
        · simp [execOp, ho, Instr.box, newVar, newRow]
        · unfold VR; exact ⟨by simp [Gh.bind]; omega, _, by simp [Gh.bind], rfl⟩
      · cases h
    · cases h
  · rename_i t x ho
    simp at h
    obtain ⟨d1, h1, rfl, rfl⟩ := h
    obtain ⟨z, h2, h3⟩ := evLoad_ok h1 hw (hev x)
    exact same z (by simp [execOp, ho, h2]) h3 rfl
  · rename_i t x y ho
    rw [Option.map_eq_some_iff] at h
    obtain ⟨M1, h1, h2⟩ := h
    simp only [Prod.mk.injEq] at h2
    obtain ⟨rfl, rfl⟩ := h2
    obtain ⟨w', h2, h3, h4⟩ := evStore_ok h1 hw (hev x) (hev y)
    exact ⟨undef, w', g, .inr ⟨by simp [execOp, ho, h2], rfl⟩, by unfold VR; trivial, h3, h4⟩
  · rename_i x ho
    have hx := hev x
    split at h
    · rename_i k off e
      simp at h; obtain ⟨rfl, rfl⟩ := h
      rw [e] at hx
      have hx0 := hx
      unfold VR at hx
      obtain ⟨_, b, _, hb⟩ := hx
      refine same _ ?_ hx0 rfl
      simp [execOp, ho, hb]
    · rename_i cs e
      simp at h; obtain ⟨rfl, rfl⟩ := h
      rw [e] at hx
      have hx0 := hx
      unfold VR at hx
      obtain ⟨b, o', vs, hb, _⟩ := hx
      refine same _ ?_ hx0 rfl
      simp [execOp, ho, hb]
    · rename_i k ver i f e
      simp at h; obtain ⟨rfl, rfl⟩ := h
      rw [e] at hx
      have hx0 := hx
      unfold VR at hx
      obtain ⟨_, B, _, _, _, hb⟩ := hx
      refine same _ ?_ hx0 rfl
      simp [execOp, ho, hb]
    · rename_i f fi ca e
      simp at h; obtain ⟨rfl, rfl⟩ := h
      rw [e] at hx
      have hx0 := hx
      unfold VR at hx
      obtain ⟨fi', ca', hb, _⟩ := hx
      refine same _ ?_ hx0 rfl
      simp [execOp, ho, hb]
    · cases h
  · rename_i op t x y yt ho
    split at h
    · rename_i p q hp hq
      simp at h
      obtain ⟨v, h1, rfl, rfl⟩ := h
      have e1 := (hev x).val hp
      have e2 := (hev y).val hq
      have := pureRun_ok w _ h1
      refine same v ?_ (by unfold VR; rfl) rfl
      simp only [execOp, ho, e1, e2]
      exact lift_val this
    · rename_i q hp hq
      rw [Option.map_eq_some_iff] at h
      obtain ⟨d', h, e⟩ := h
      cases e
      have e2 := (hev y).val hq
      have hx := hev x
      unfold nilEq at h
      split at h
      · rename_i hx1
        split at h
        · rename_i e hu
          simp only [Option.some.injEq] at h
          subst h
          rw [hx1] at hx
          unfold VR at hx
          obtain ⟨A, c, esz, hy, _, _, h4⟩ := hx
          have hA : ∃ ad, A = some ad := by
            unfold RowsR at h4
            obtain ⟨b, o, vs, hb, _⟩ := h4
            cases A with
            | none => simp [advA] at hb
            | some ad => exact ⟨ad, rfl⟩
          obtain ⟨ad, rfl⟩ := hA
          have h9 : pureRun P (do eqGuard .eql t x y (a.eval x) (a.eval y); binOp .eql t (a.eval x) (a.eval y)) = some (.bool false) := by
            rw [hy, e2]
            exact pr_slnil hu
          refine same (.bool false) ?_ (by unfold VR; rfl) rfl
          simp only [execOp, ho]
          exact lift_val (pureRun_ok w _ h9)
        · cases h
      · cases h
    · cases h
  · rename_i op t x ho
    split at h
    · rename_i p hp
      simp at h
      obtain ⟨v, h1, rfl, rfl⟩ := h
      have e1 := (hev x).val hp
      refine same v ?_ (by unfold VR; rfl) rfl
      simp only [execOp, ho, e1]
      exact lift_val (pureRun_ok w _ h1)
    · cases h
  · rename_i s t x ho
    split at h
    · rename_i hk
      split at h
      · rename_i str hs
        simp only [Option.some.injEq, Prod.mk.injEq] at h
        obtain ⟨rfl, rfl⟩ := h
        have hx := hev x
        rw [hs] at hx
        unfold VR at hx
        unfold convK at hk
        split at hk
        · rename_i e hu1 hu2
          split at hk
          · rename_i hu3
            obtain ⟨z, w', g', q1, q2, q3, q4⟩ := toBytes_ok (s := str) hw hu1 hu2 hu3
            exact ⟨z, w', g', .inl (by simp only [execOp, ho, hx]; exact lift_val q1), q2, q3, q4⟩
          · cases hk
        · split at hk <;> cases hk
        · cases hk
      · cases h
    · rename_i hk
      split at h
      · rename_i rows hr
        rw [Option.map_eq_some_iff] at h
        obtain ⟨l, hl, h2⟩ := h
        simp only [Prod.mk.injEq] at h2
        obtain ⟨rfl, rfl⟩ := h2
        unfold convK at hk
        split at hk
        · split at hk <;> cases hk
        · rename_i e hu1 hu2
          split at hk
          · rename_i hu3
            have := toStr_ok hw (hev x) hu1 hu3 hu2 hr hl
            exact same _ (by simp only [execOp, ho]; exact lift_val this) (by unfold VR; rfl) rfl
          · cases hk
        · cases hk
      · cases h
    · split at h
      · rename_i p hp
        simp at h
        obtain ⟨v, h1, rfl, rfl⟩ := h
        have e1 := (hev x).val hp
        refine same v ?_ (by unfold VR; rfl) rfl
        simp only [execOp, ho, e1]
        exact lift_val (pureRun_ok w _ h1)
      · cases h
  · rename_i t parts ho
    rw [Option.map_eq_some_iff] at h
    obtain ⟨d1, h1, h2⟩ := h
    simp only [Prod.mk.injEq] at h2
    obtain ⟨rfl, rfl⟩ := h2
    obtain ⟨v, q1, q2⟩ := evBuild_ok (w := w) (ps := parts.map fun p => (p.1, a.eval p.2)) h1 (by simpa using PartsR_map (a := a) parts.toList hev)
    exact same v (by simp only [execOp, ho]; exact lift_val q1) q2 rfl
  · rename_i t len parts ho
    obtain ⟨v, w', g', q1, q2, q3, q4⟩ := evBuildSlice_ok (ps := parts.map fun p => (p.1, a.eval p.2)) h hw (by simpa using PartsR_map (a := a) parts.toList hev)
    exact ⟨v, w', g', .inl (by simp only [execOp, ho]; exact lift_val q1), q2, q3, q4⟩
  · rename_i t x l hh m ho
    split at h
    · rename_i l' h' m' e1 e2 e3
      rw [Option.map_eq_some_iff] at h
      obtain ⟨d1, h1, h2⟩ := h
      simp only [Prod.mk.injEq] at h2
      obtain ⟨rfl, rfl⟩ := h2
      obtain ⟨z, q1, q2⟩ := evSlice_ok h1 hw (hev x) (bndOf_ok e1 hev) (bndOf_ok e2 hev) (bndOf_ok e3 hev)
      exact same z (by simp only [execOp, ho]; exact lift_val q1) q2 rfl
    · cases h
  · rename_i t ho
    split at h
    · rename_i hlo
      rw [Option.map_eq_some_iff] at h
      obtain ⟨M1, h1, h2⟩ := h
      simp only [Prod.mk.injEq] at h2
      obtain ⟨rfl, rfl⟩ := h2
      obtain ⟨q1, q2⟩ := hw.newMap h1 hlo
      refine ⟨.map (some w.heap.size), _, _, .inl ?_, ?_, q1, q2⟩
      · simp only [execOp, ho]
        exact lift_val rfl
      · unfold VR; exact ⟨by simp [Gh.bind]; omega, _, by simp [Gh.bind], rfl⟩
    · cases h
  · rename_i t m k x ho
    rw [Option.map_eq_some_iff] at h
    obtain ⟨M1, h1, h2⟩ := h
    simp only [Prod.mk.injEq] at h2
    obtain ⟨rfl, rfl⟩ := h2
    obtain ⟨w', h2, h3, h4⟩ := evInsert_ok h1 hw (hev m) (hev k) (hev x)
    exact ⟨undef, w', g, .inr ⟨by simp [execOp, ho, h2], rfl⟩, by unfold VR; trivial, h3, h4⟩
  · rename_i t m k x ho
    rw [Option.map_eq_some_iff] at h
    obtain ⟨M1, h1, h2⟩ := h
    simp only [Prod.mk.injEq] at h2
    obtain ⟨rfl, rfl⟩ := h2
    obtain ⟨w', h2, h3, h4⟩ := evInsert_ok h1 hw (hev m) (hev k) (hev x)
    exact ⟨undef, w', g, .inr ⟨by simp [execOp, ho, h2], rfl⟩, by unfold VR; trivial, h3, h4⟩
  · rename_i t x i ok ho
    rw [Option.map_eq_some_iff] at h
    obtain ⟨d1, h1, h2⟩ := h
    simp only [Prod.mk.injEq] at h2
    obtain ⟨rfl, rfl⟩ := h2
    obtain ⟨z, q1, q2⟩ := evLookup_ok h1 hw (hev x) (hev i)
    exact same z (by simp only [execOp, ho]; exact lift_val q1) q2 rfl
  · rename_i t x ho
    split at h
    · rename_i hi
      simp at h; obtain ⟨rfl, rfl⟩ := h
      refine same (.iface t (a.eval x)) ?_ (by unfold VR; exact ⟨_, rfl, hev x⟩) rfl
      simp only [execOp, ho]
      refine lift_val ?_
      unfold isIface at hi
      split at hi
      · simp at hi
      · rename_i dd _ hu
        simp only [Instr.makeInterface, Sem.run_bind, run_underlying hu, Result.andThen_ok]
        cases dd <;> first | rfl | (exfalso; rename_i hne; exact hne _ rfl) | skip
      · cases hi
    · cases h
  · rename_i fn first caps ho
    simp at h; obtain ⟨rfl, rfl⟩ := h
    refine same (.func fn (first.map a.eval) (caps.map a.eval)) (by simp [execOp, ho, Instr.makeFunc]) ?_ rfl
    unfold VR
    exact ⟨_, _, rfl, by simpa using VRs_map (a := a) (f := ev) (l := first.toList) (fun x _ => hev x), by simpa using VRs_map (a := a) (f := ev) (l := caps.toList) (fun x _ => hev x)⟩
  · rename_i s x f ho
    rw [Option.map_eq_some_iff] at h
    obtain ⟨d1, h1, h2⟩ := h
    simp only [Prod.mk.injEq] at h2
    obtain ⟨rfl, rfl⟩ := h2
    obtain ⟨z, q1, q2⟩ := evFieldAddr_ok h1 hw (hev x)
    exact same z (by simp only [execOp, ho]; exact lift_val q1) q2 rfl
  · rename_i s x f ho
    rw [Option.map_eq_some_iff] at h
    obtain ⟨d1, h1, h2⟩ := h
    simp only [Prod.mk.injEq] at h2
    obtain ⟨rfl, rfl⟩ := h2
    obtain ⟨z, q1, q2⟩ := evField_ok (w := w) h1 (hev x)
    exact same z (by simp only [execOp, ho]; exact lift_val q1) q2 rfl
  · rename_i t x i ho
    split at h
    · rename_i j hj
      rw [Option.map_eq_some_iff] at h
      obtain ⟨d1, h1, h2⟩ := h
      simp only [Prod.mk.injEq] at h2
      obtain ⟨rfl, rfl⟩ := h2
      obtain ⟨k, hk⟩ := intOfAV_ok hj (hev i)
      obtain ⟨z, q1, q2⟩ := evIndexAddr_ok (k := k) h1 hw (hev x)
      exact same z (by simp only [execOp, ho, hk]; exact lift_val q1) q2 rfl
    · cases h
  · rename_i t x i ho
    split at h
    · rename_i p q hp hq
      simp at h
      obtain ⟨v, h1, rfl, rfl⟩ := h
      refine same v ?_ (by unfold VR; rfl) rfl
      simp only [execOp, ho, (hev x).val hp, (hev i).val hq]
      exact lift_val (pureRun_ok w _ h1)
    · cases h
  · rename_i t l c ho
    obtain ⟨v, w', g', q1, q2, q3, q4⟩ := evMake_ok h hw (hev l) (hev c)
    exact ⟨v, w', g', .inl (by simp only [execOp, ho]; exact lift_val q1), q2, q3, q4⟩
  · rename_i x xt t ok ho
    simp at h
    obtain ⟨d1, h1, rfl, rfl⟩ := h
    obtain ⟨v, h2, h3⟩ := evAssert_ok (xt := xt) (w := w) h1 (hev x)
    exact same v (by simp only [execOp, ho]; exact lift_val h2) h3 rfl
  · rename_i x i ho
    have hx := hev x
    split at h
    · rename_i xs e
      simp at h
      obtain ⟨d1, h1, rfl, rfl⟩ := h
      rw [e] at hx
      unfold VR at hx
      obtain ⟨vs, hb, h2⟩ := hx
      obtain ⟨v, h3, h4⟩ := h2.get h1
      refine same v ?_ h4 rfl
      have h3' : vs[i]? = some v := by simpa using h3
      simp [execOp, ho, hb, Instr.extract, h3']
    · cases h
  · rename_i c ho
    split at h
    · rename_i bi hbi
      split at h
      · have hargs : VRs g (c.args.toList.map ev) (c.args.map a.eval).toList := by simpa using VRs_map (a := a) (f := ev) (l := c.args.toList) (fun x _ => hev x)
        split at h
        · rename_i x y t t2 he ht
          rw [he] at hargs
          unfold VRs at hargs
          obtain ⟨v, vs, e1, e2, e3⟩ := hargs
          unfold VRs at e3
          obtain ⟨v2, vs2, rfl, e4, e5⟩ := e3
          unfold VRs at e5; subst e5
          have e1' : c.args.map a.eval = #[v, v2] := by apply Array.toList_inj.1; simpa using e1
          have et : c.argTypes = #[t, t2] := by apply Array.toList_inj.1; simpa using ht
          obtain ⟨z, w', g', q1, q2, q3, q4⟩ := evAppend_ok (ty := o.type) h hw e2 e4
          refine ⟨z, w', g', .inl ?_, q2, q3, q4⟩
          simp only [execOp, ho, resolve, hbi, e1', invoke, builtin, Sem.run_bind, Sem.run_pure, Result.andThen_ok, et, q1]
        · cases h
      · have hargs : VRs g (c.args.toList.map ev) (c.args.map a.eval).toList := by simpa using VRs_map (a := a) (f := ev) (l := c.args.toList) (fun x _ => hev x)
        split at h
        · rename_i s t he ht
          simp at h
          obtain ⟨v, h1, rfl, rfl⟩ := h
          rw [he] at hargs
          have e1 := hargs.vals (x := [.string s]) (by simp [AV.vals, AV.val])
          have e1' : c.args.map a.eval = #[.string s] := by apply Array.toList_inj.1; simpa using e1
          refine same v ?_ (by unfold VR; rfl) rfl
          simp only [execOp, ho, resolve, hbi, e1', invoke, builtin, Sem.run_bind, Sem.run_pure, Result.andThen_ok, pureRun_ok w _ h1]
        · rename_i x t _ he ht
          split at h
          · rename_i hsl
            rw [Option.map_eq_some_iff] at h
            obtain ⟨n, hn, h2⟩ := h
            simp only [Prod.mk.injEq] at h2
            obtain ⟨rfl, rfl⟩ := h2
            rw [he] at hargs
            unfold VRs at hargs
            obtain ⟨v, vs, e1, e2, e3⟩ := hargs
            unfold VRs at e3; subst e3
            obtain ⟨A, c', rfl⟩ := evLen_ok hn e2
            have e1' : c.args.map a.eval = #[.slice A n c'] := by apply Array.toList_inj.1; simpa using e1
            refine same (.int .i64 n) ?_ (by unfold VR; rfl) rfl
            unfold isSlice at hsl
            split at hsl
            · rename_i e0 hu
              simp [execOp, ho, resolve, hbi, e1', invoke, builtin, Builtin.len_, ht, run_underlying hu, goInt]
            · cases hsl
          · cases h
        · cases h
      · have hargs : VRs g (c.args.toList.map ev) (c.args.map a.eval).toList := by simpa using VRs_map (a := a) (f := ev) (l := c.args.toList) (fun x _ => hev x)
        split at h
        · rename_i l hl
          simp at h
          obtain ⟨v, h1, rfl, rfl⟩ := h
          have e1 := hargs.vals hl
          have e1' : c.args.map a.eval = l.toArray := by apply Array.toList_inj.1; simpa using e1
          refine same v ?_ (by unfold VR; rfl) rfl
          simp only [execOp, ho, resolve, hbi, e1', invoke, builtin, Sem.run_bind, Sem.run_pure, Result.andThen_ok, pureRun_ok w _ h1]
        · cases h
      · have hargs : VRs g (c.args.toList.map ev) (c.args.map a.eval).toList := by simpa using VRs_map (a := a) (f := ev) (l := c.args.toList) (fun x _ => hev x)
        split at h
        · rename_i l hl
          simp at h
          obtain ⟨v, h1, rfl, rfl⟩ := h
          have e1 := hargs.vals hl
          have e1' : c.args.map a.eval = l.toArray := by apply Array.toList_inj.1; simpa using e1
          refine same v ?_ (by unfold VR; rfl) rfl
          simp only [execOp, ho, resolve, hbi, e1', invoke, builtin, Sem.run_bind, Sem.run_pure, Result.andThen_ok, pureRun_ok w _ h1]
        · cases h
      · cases h
    · cases h
  · cases h
end
end Go.Ag
/- ABSTRACT RUNS: older frames' objects lead to no newer ones; each operation keeps that. -/
namespace Go.Ag
open Go.RowKit
def LOK (base : Nat) (M : Mem) : Prop := ∀ (k : Nat) (o : AObj), k < base → M[k]? = some o → o.lt base = true
section
variable {base : Nat}
theorem lts_append : ∀ {x y : List AV}, AV.lts base x = true → AV.lts base y = true → AV.lts base (x ++ y) = true
  | [], y, _, hy => hy
  | z :: zs, y, hx, hy => by
    simp only [List.cons_append, AV.lts, Bool.and_eq_true] at hx ⊢
    exact ⟨hx.1, lts_append hx.2 hy⟩
theorem lts_take : ∀ {x : List AV} (m : Nat), AV.lts base x = true → AV.lts base (x.take m) = true
  | [], m, _ => by simp [AV.lts]
  | z :: zs, 0, _ => by simp [AV.lts]
  | z :: zs, m + 1, hx => by
    simp only [List.take_succ_cons, AV.lts, Bool.and_eq_true] at hx ⊢
    exact ⟨hx.1, lts_take m hx.2⟩
theorem lts_drop : ∀ {x : List AV} (m : Nat), AV.lts base x = true → AV.lts base (x.drop m) = true
  | [], m, _ => by simp [AV.lts]
  | z :: zs, 0, hx => hx
  | z :: zs, m + 1, hx => by
    simp only [AV.lts, Bool.and_eq_true] at hx
    simpa using lts_drop m hx.2
theorem lts_splice {cs new : List AV} {off : Nat} (h : AV.lts base cs = true) (h' : AV.lts base new = true) : AV.lts base (splice cs new off) = true :=
  lts_append (lts_append (lts_take _ h) h') (lts_drop _ h)
theorem ltss_append : ∀ {x y : List (List AV)}, AV.ltss base x = true → AV.ltss base y = true → AV.ltss base (x ++ y) = true
  | [], y, _, hy => hy
  | z :: zs, y, hx, hy => by
    simp only [List.cons_append, AV.ltss, Bool.and_eq_true] at hx ⊢
    exact ⟨hx.1, ltss_append hx.2 hy⟩
theorem ltss_take : ∀ {x : List (List AV)} (m : Nat), AV.ltss base x = true → AV.ltss base (x.take m) = true
  | [], m, _ => by simp [AV.ltss]
  | z :: zs, 0, _ => by simp [AV.ltss]
  | z :: zs, m + 1, hx => by
    simp only [List.take_succ_cons, AV.ltss, Bool.and_eq_true] at hx ⊢
    exact ⟨hx.1, ltss_take m hx.2⟩
theorem ltss_drop : ∀ {x : List (List AV)} (m : Nat), AV.ltss base x = true → AV.ltss base (x.drop m) = true
  | [], m, _ => by simp [AV.ltss]
  | z :: zs, 0, hx => hx
  | z :: zs, m + 1, hx => by
    simp only [AV.ltss, Bool.and_eq_true] at hx
    simpa using ltss_drop m hx.2
theorem ltss_get : ∀ {x : List (List AV)} {i : Nat} {r : List AV}, AV.ltss base x = true → x[i]? = some r → AV.lts base r = true
  | [], i, r, _, h => by simp at h
  | z :: zs, 0, r, hx, h => by
    simp at h; subst h
    simp only [AV.ltss, Bool.and_eq_true] at hx
    exact hx.1
  | z :: zs, i + 1, r, hx, h => by
    simp only [AV.ltss, Bool.and_eq_true] at hx
    exact ltss_get hx.2 (by simpa using h)
theorem ltss_set : ∀ {x : List (List AV)} {i : Nat} {r : List AV}, AV.ltss base x = true → AV.lts base r = true → AV.ltss base (x.set i r) = true
  | [], i, r, hx, _ => by simp [AV.ltss]
  | z :: zs, 0, r, hx, h => by
    simp only [List.set_cons_zero, AV.ltss, Bool.and_eq_true] at hx ⊢
    exact ⟨h, hx.2⟩
  | z :: zs, i + 1, r, hx, h => by
    simp only [List.set_cons_succ, AV.ltss, Bool.and_eq_true] at hx ⊢
    exact ⟨hx.1, ltss_set hx.2 h⟩
theorem ltsE_set : ∀ {x : List (Value × AV)} {i : Nat} {e : Value × AV}, AV.lts base (x.map (·.2)) = true → e.2.lt base = true → AV.lts base ((x.set i e).map (·.2)) = true
  | [], i, r, hx, _ => by simp [AV.lts]
  | z :: zs, 0, r, hx, h => by
    simp only [List.set_cons_zero, List.map_cons, AV.lts, Bool.and_eq_true] at hx ⊢
    exact ⟨h, hx.2⟩
  | z :: zs, i + 1, r, hx, h => by
    simp only [List.set_cons_succ, List.map_cons, AV.lts, Bool.and_eq_true] at hx ⊢
    exact ⟨hx.1, ltsE_set hx.2 h⟩
variable {P : Program} {bs : List Nat} {lo : Nat} {M M' : Mem} {ak : Nat}
theorem LOK.putObj {o : AObj} (k : LOK base M) (hx : putObj M ak o = some M') (hb : base ≤ ak) : LOK base M' := by
  intro i o' hi hM
  obtain ⟨_, _, h3, _⟩ := putObj_get hx
  rw [h3 i (by omega)] at hM
  exact k i o' hi hM
theorem LOK.set {o o' : AObj} {i : Nat} (k : LOK base M) (hM : M[i]? = some o) (h : i < base → o.lt base = true → o'.lt base = true) : LOK base (M.set i o') := by
  intro j o'' hj hM'
  obtain ⟨h1, h2⟩ := set_get (o' := o') hM
  by_cases e : j = i
  · subst e
    rw [h1] at hM'; cases hM'
    exact h hj (k _ _ hj hM)
  · rw [h2 j e] at hM'
    exact k _ _ hj hM'
theorem bsOK_get {k : Nat} {new : List AV} (h : bsOK bs k new = true) (hm : base ∈ bs) (hk : k < base) : AV.lts base new = true := by
  rw [bsOK, List.all_eq_true] at h
  have := h base hm
  simp only [Bool.or_eq_true, decide_eq_true_eq] at this
  exact this.resolve_left (by omega)
theorem bsOKs_get {k : Nat} {new : List (List AV)} (h : bsOKs bs k new = true) (hm : base ∈ bs) (hk : k < base) : AV.ltss base new = true := by
  rw [bsOKs, List.all_eq_true] at h
  have := h base hm
  simp only [Bool.or_eq_true, decide_eq_true_eq] at this
  exact this.resolve_left (by omega)
theorem LOK.evStore {t : TypeId} {x y : AV} (k : LOK base M) (h : evStore P bs lo M t x y = some M') (hm : base ∈ bs) : LOK base M' := by
  unfold Go.Ag.evStore at h
  split at h
  · split at h
    · rename_i cs new r n hM hcells hlay
      split at h
      · rename_i hc
        simp at h; subst h
        exact k.set hM fun hi ho => lts_splice ho (bsOK_get hc.2.2.2.2 hm hi)
      · cases h
    · cases h
  · split at h
    · rename_i ver' esz rows new r n hM hcells hlay
      split at h
      · rename_i row hrow
        split at h
        · rename_i hc
          simp at h; subst h
          exact k.set hM fun hi ho => ltss_set ho (lts_splice (ltss_get ho hrow) (bsOK_get hc.2.2.2.2.2 hm hi))
        · cases h
      · cases h
    · cases h
  · split at h
    · simp at h; subst h; exact k
    · simp at h; subst h; exact k
    · cases h
  · cases h
theorem LOK.evAppend {t t2 : TypeId} {x y d : AV} (k : LOK base M) (h : evAppend P bs lo M ak t t2 x y = some (d, M')) (hm : base ∈ bs) (hb : base ≤ ak) : LOK base M' := by
  unfold Go.Ag.evAppend at h
  split at h
  · cases h
  · split at h
    · cases h
    · split at h
      · split at h
        · rw [Option.map_eq_some_iff] at h
          obtain ⟨M1, h1, h2⟩ := h
          simp only [Prod.mk.injEq] at h2
          obtain ⟨_, rfl⟩ := h2
          exact k.putObj h1 hb
        · cases h
      · split at h
        · rw [Option.map_eq_some_iff] at h
          obtain ⟨M1, h1, h2⟩ := h
          simp only [Prod.mk.injEq] at h2
          obtain ⟨_, rfl⟩ := h2
          exact k.putObj h1 hb
        · cases h
      · split at h
        · rename_i hM
          split at h
          · rename_i hc
            simp only [Option.some.injEq, Prod.mk.injEq] at h
            obtain ⟨_, rfl⟩ := h
            exact k.set hM fun hi ho => ltss_append (ltss_take _ (ltss_drop _ ho)) (bsOKs_get hc.2.2.2.2.2.2 hm hi)
          · cases h
        · cases h
      · cases h
theorem LOK.evInsert {t : TypeId} {x i y : AV} (k : LOK base M) (h : evInsert P bs lo M t x i y = some M') (hm : base ∈ bs) : LOK base M' := by
  unfold Go.Ag.evInsert at h
  split at h
  · split at h
    · rename_i es hM
      split at h
      · rename_i hc
        have hy : ∀ k', bsOK bs k' [y] = true → k' < base → y.lt base = true := fun k' h1 h2 => by
          have := bsOK_get h1 hm h2
          simpa [AV.lts] using this
        split at h
        · simp at h; subst h
          exact k.set hM fun hi ho => ltsE_set ho (hy _ hc.2.2 hi)
        · simp at h; subst h
          refine k.set hM fun hi ho => ?_
          simp only [AObj.lt, List.map_append, List.map_cons, List.map_nil]
          exact lts_append ho (by simpa [AV.lts] using hy _ hc.2.2 hi)
        · cases h
      · cases h
    · cases h
  · cases h
theorem LOK.evBuildSlice {t : TypeId} {len : Nat} {parts : List (Nat × AV)} {d : AV} (k : LOK base M) (h : evBuildSlice P lo M ak t len parts = some (d, M')) (hb : base ≤ ak) : LOK base M' := by
  unfold Go.Ag.evBuildSlice at h
  split at h
  · split at h
    · split at h
      · split at h
        · rw [Option.map_eq_some_iff] at h
          obtain ⟨M1, h1, h2⟩ := h
          simp only [Prod.mk.injEq] at h2
          obtain ⟨_, rfl⟩ := h2
          exact k.putObj h1 hb
        · cases h
      · cases h
    · cases h
  · cases h
theorem LOK.evMake {t : TypeId} {l c d : AV} (k : LOK base M) (h : evMake P lo M ak t l c = some (d, M')) (hb : base ≤ ak) : LOK base M' := by
  unfold Go.Ag.evMake at h
  split at h
  · split at h
    · split at h
      · rw [Option.map_eq_some_iff] at h
        obtain ⟨M1, h1, h2⟩ := h
        simp only [Prod.mk.injEq] at h2
        obtain ⟨_, rfl⟩ := h2
        exact k.putObj h1 hb
      · cases h
    · cases h
  · cases h
end
end Go.Ag
/- ABSTRACT RUNS, FREEZING: what lies in row objects of one's own becomes cells that never turn. -/
namespace Go.Ag
open Go.RowKit
def AV.isOne : AV → Bool
  | .one => true
  | _ => false
def noOnes (rows : List (List AV)) : Bool := rows.all fun r => r.all fun a => !a.isOne
def slOf (n : Nat) (rows spare : List (List AV)) : AV := if 100 ≤ n ∧ noOnes rows = true then .slw rows else .sl rows spare
def frz (M : Mem) (base : Nat) : Nat → AV → AV
  | 0, a => a
  | n + 1, a => match a with
    | .v (.slice none 0 0) => slOf n [] []
    | .emp => slOf n [] []
    | .so k ver off len => if base ≤ k then match M[k]? with
        | some (.row ver' _ rows) => if ver' = ver ∧ off + len ≤ rows.length then slOf n (((rows.drop off).take len).map fun r => r.map (frz M base n)) ((rows.drop (off + len)).map fun r => r.map (frz M base n)) else .so k ver off len
        | _ => .so k ver off len
      else .so k ver off len
    | .mp k => if base ≤ k then match M[k]? with
        | some (.mp es) => .imp (es.map (·.1)) (es.map fun e => frz M base n e.2)
        | _ => .mp k
      else .mp k
    | .agg cs => .agg (cs.map (frz M base n))
    | .tup xs => .tup (xs.map (frz M base n))
    | .ifc t x => .ifc t (frz M base n x)
    | .sl rows spare => .sl (rows.map fun r => r.map (frz M base n)) (spare.map fun r => r.map (frz M base n))
    | .fn f fi ca => .fn f (fi.map (frz M base n)) (ca.map (frz M base n))
    | a => a
section
variable {lo : Nat} {Fz : Nat → Prop} {wb : World} {g : Gh} {M : Mem} {w : World} {base : Nat}
theorem RowsR.toW {g : Gh} {esz : Nat} : ∀ {rows : List (List AV)} {A : Option Addr}, noOnes rows = true → (∀ b o, A = some ⟨b, o, none⟩ → g.N ≤ b) → RowsR g esz A rows → RowsW g esz A rows
  | [], _, _, _, _ => by unfold RowsW; trivial
  | r :: rs, A, hno, hN, h => by
    unfold RowsR at h
    unfold RowsW
    unfold noOnes at hno
    rw [List.all_cons, Bool.and_eq_true] at hno
    obtain ⟨b, o, vs, h1, h2, h3, h4, h5⟩ := h
    refine ⟨b, o, vs, h1, h2, h3, fun j a v ha hv => ⟨fun e => ?_, fun _ => ⟨h4 j v hv, hN b o h1⟩⟩, RowsR.toW hno.2 (fun b' o' e => ?_) h5⟩
    · have := List.all_eq_true.1 hno.1 a (List.mem_of_getElem? ha)
      rw [e] at this; cases this
    · cases e; exact hN b o h1
theorem slOf_VR {g : Gh} {n : Nat} {rows spare : List (List AV)} {y : Value} (h : VR g (.sl rows spare) y) (hN : ∀ A k c, y = .slice A k c → rows ≠ [] → ∀ b o, A = some ⟨b, o, none⟩ → g.N ≤ b) : VR g (slOf n rows spare) y := by
  unfold slOf
  split
  · rename_i hc
    unfold VR at h ⊢
    obtain ⟨A, c, esz, rfl, h2, h3, _⟩ := h
    refine ⟨A, c, esz, rfl, by omega, ?_⟩
    by_cases hr : rows = []
    · subst hr; unfold RowsW; trivial
    · exact h3.toW hc.2 (hN A _ c rfl hr)
  · exact h
theorem VRs_frz {g' : Gh} {f : AV → AV} (hf : ∀ a y, VR g a y → VR g' (f a) y) : ∀ (l : List AV) (vs : List Value), VRs g l vs → VRs g' (l.map f) vs
  | [], vs, h => by unfold VRs at h; subst h; exact VRs.nil
  | a :: as', vs, h => by
    unfold VRs at h
    obtain ⟨v, vs', rfl, h2, h3⟩ := h
    exact VRs.cons (hf _ _ h2) (VRs_frz hf as' vs' h3)
theorem RowsR_frz {g' : Gh} {f : AV → AV} {esz : Nat} (hle : g.le g') (hf : ∀ a y, VR g a y → VR g' (f a) y) : ∀ (A : Option Addr) (l : List (List AV)), RowsR g esz A l → RowsR g' esz A (l.map fun r => r.map f)
  | A, [], _ => by simp; unfold RowsR; trivial
  | A, r :: rs, h => by
    unfold RowsR at h
    obtain ⟨b, o, vs, h1, h2, h3, h4, h5⟩ := h
    simp only [List.map_cons]
    unfold RowsR
    exact ⟨b, o, vs, h1, h2, VRs_frz hf _ _ h3, h4.mono hle, RowsR_frz hle hf _ _ h5⟩
theorem EntR_keys : ∀ {es : List (Value × AV)} {l : List MapEntry}, EntR g es l → l.map (·.key) = es.map (·.1) ∧ VRs g (es.map (·.2)) (l.map (·.val))
  | [], l, h => by
    have : l = [] := h
    subst this
    exact ⟨rfl, VRs.nil⟩
  | e :: es, l, h => by
    obtain ⟨m, ms, rfl, h1, h2, h3⟩ := h
    obtain ⟨q1, q2⟩ := EntR_keys h3
    exact ⟨by simp [h1, q1], VRs.cons h2 q2⟩
theorem EntR_vals {g' : Gh} {f : AV → AV} (hf : ∀ a y, VR g a y → VR g' (f a) y) {es : List (Value × AV)} {l : List MapEntry} (h : EntR g es l) : VRs g' (es.map fun e => f e.2) (l.map (·.val)) := by
  have := VRs_frz hf _ _ (EntR_keys h).2
  rwa [List.map_map] at this
theorem VR.frzG (hw : WR lo Fz wb g M w) {gF : Gh} (hle : g.le gF) (hNb : ∀ k b, base ≤ k → g.cur M k = some b → g.N ≤ b) (hcell : ∀ (k b ver esz : Nat) (rows : List (List AV)), base ≤ k → M[k]? = some (.row ver esz rows) → g.cur M k = some b → ∀ o, gF.G b o = w.cell? ⟨b, o, none⟩)
    (hmap : ∀ (k b : Nat) (es : List (Value × AV)) (l : Array MapEntry) (cl : Nat), base ≤ k → M[k]? = some (.mp es) → g.cur M k = some b → w.heap[b]? = some (.map l cl) → gF.Gm b = some l.toList) :
    ∀ (n : Nat) (a : AV) (y : Value), VR g a y → VR gF (frz M base n a) y
  | 0, a, y, h => VR.mono hle _ _ h
  | n + 1, a, y, h => by
    have ih := fun a y h => VR.frzG hw hle hNb hcell hmap n a y h
    have h0 := VR.mono hle _ _ h
    unfold Go.Ag.frz
    split
    · unfold VR at h; subst h
      refine slOf_VR ?_ (fun _ _ _ _ h => absurd rfl h)
      unfold VR
      exact ⟨none, 0, 0, rfl, Nat.le_refl _, by unfold RowsR; trivial, by unfold RowsR; trivial⟩
    · unfold VR at h
      obtain ⟨A, rfl⟩ := h
      refine slOf_VR ?_ (fun _ _ _ _ h => absurd rfl h)
      unfold VR
      exact ⟨A, 0, 0, rfl, Nat.le_refl _, by unfold RowsR; trivial, by unfold RowsR; trivial⟩
    · rename_i k ver off len
      split
      · rename_i hk
        split
        · rename_i ver' esz rows hM
          split
          · rename_i hc
            obtain ⟨rfl, hle2⟩ := hc
            unfold VR at h
            obtain ⟨hkn, ob, hob, h⟩ := h
            rcases h with ⟨rfl, rfl, rfl, A, rfl⟩ | ⟨B, a, rfl, hBc, rfl, haB⟩
            · obtain ⟨_, ob', e1, e2⟩ := hw.obj _ _ hM
              rw [hob] at e1; cases e1
              have hr : rows = [] := by
                rcases e2 with ⟨_, e2⟩ | ⟨B, _, _, e2, _⟩
                · exact e2
                · cases e2
              subst hr
              refine slOf_VR ?_ (fun _ _ _ _ h => absurd (by simp) h)
              unfold VR
              exact ⟨A, 0, 0, by simp, by simp, by simp; unfold RowsR; trivial, by simp; unfold RowsR; trivial⟩
            · obtain ⟨z0, z1, z2, z3, vs, T, hheap, hsz, hrows⟩ := hw.rowAt hM hob
              have hcur : g.cur M k = some B.b := by rw [cur_get hM]; simp [Gh.curO, hob]
              have hall : ∀ (o : Nat) (l : List (List AV)), (∀ i r, l[i]? = some r → rows[o + i]? = some r) → RowsR gF B.esz (some ⟨B.b, B.o + o * B.esz, none⟩) (l.map fun r => r.map (Go.Ag.frz M base n)) := by
                intro o l hl
                refine RowsR.of _ _ fun i r hr => ?_
                rw [List.getElem?_map, Option.map_eq_some_iff] at hr
                obtain ⟨r0, hr0, rfl⟩ := hr
                obtain ⟨p1, p2⟩ := hrows.get (hl i r0 hr0)
                rw [List.length_drop] at p1
                refine ⟨_, ?_, VRs_frz ih _ _ p2, ?_⟩
                · rw [List.length_take, List.length_drop, List.length_drop]; omega
                · intro j v hj
                  rw [hcell k B.b _ _ _ hk hM hcur]
                  rw [List.getElem?_take] at hj
                  split at hj
                  · rw [List.drop_drop, List.getElem?_drop, Nat.add_mul] at hj
                    refine cell_of_block hheap _ v ?_
                    rw [← hj]
                    congr 1
                    omega
                  · cases hj
              have hv : ((rows.drop off).take len).length = len := by simp; omega
              refine slOf_VR ?_ (fun A k' c' e hne b' o' e2 => ?_)
              rotate_left
              · cases e
                have hlt : off < B.c := by
                  rcases Nat.lt_or_ge off B.c with h | h
                  · exact h
                  · exfalso
                    apply hne
                    have : len = 0 := by omega
                    subst this; simp
                rw [haB hlt] at e2
                cases e2
                rw [hle.N]
                exact hNb k _ hk hcur
              unfold VR
              refine ⟨some a, B.c - off, B.esz, by rw [List.length_map, hv], by simp; omega, ?_, ?_⟩
              · by_cases hlt : off < B.c
                · rw [haB hlt]
                  refine hall off _ fun i r hr => ?_
                  rw [List.getElem?_take] at hr
                  split at hr
                  · rwa [List.getElem?_drop] at hr
                  · cases hr
                · have : (rows.drop off).take len = [] := by
                    have : len = 0 := by omega
                    subst this; simp
                  rw [this]; unfold RowsR; trivial
              · by_cases hlt : off < B.c
                · rw [haB hlt, List.length_map, hv, advA, Option.map_some, Addr.add_lit, show B.o + off * B.esz + len * B.esz = B.o + (off + len) * B.esz by rw [Nat.add_mul]; omega]
                  refine hall (off + len) _ fun i r hr => ?_
                  rwa [List.getElem?_drop] at hr
                · have : rows.drop (off + len) = [] := List.drop_eq_nil_of_le (by omega)
                  rw [this]; simp; unfold RowsR; trivial
          · exact h0
        · exact h0
      · exact h0
    · rename_i k
      split
      · rename_i hk
        split
        · rename_i es hM
          unfold VR at h
          obtain ⟨_, b, hb, rfl⟩ := h
          obtain ⟨b', l, cl, e1, e2, e3⟩ := hw.obj _ _ hM
          rw [hb] at e1; cases e1
          unfold VR
          refine ⟨b, l.toList, rfl, hmap k b es l cl hk hM (by rw [cur_get hM]; exact hb) e2, (EntR_keys e3).1, EntR_vals ih e3⟩
        · exact h0
      · exact h0
    · unfold VR at h ⊢
      obtain ⟨vs, h1, h2⟩ := h
      exact ⟨vs, h1, VRs_frz ih _ _ h2⟩
    · unfold VR at h ⊢
      obtain ⟨vs, h1, h2⟩ := h
      exact ⟨vs, h1, VRs_frz ih _ _ h2⟩
    · unfold VR at h ⊢
      obtain ⟨u, h1, h2⟩ := h
      exact ⟨u, h1, ih _ _ h2⟩
    · unfold VR at h ⊢
      obtain ⟨A, c, esz, h1, h2, h3, h4⟩ := h
      refine ⟨A, c, esz, by rw [List.length_map]; exact h1, by simpa using h2, RowsR_frz hle ih _ _ h3, ?_⟩
      rw [List.length_map]
      exact RowsR_frz hle ih _ _ h4
    · unfold VR at h ⊢
      obtain ⟨fi', ca', h1, h2, h3⟩ := h
      exact ⟨fi', ca', h1, VRs_frz ih _ _ h2, VRs_frz ih _ _ h3⟩
    · exact h0
open Classical in
noncomputable def Gh.frzR (g : Gh) (w : World) (M : Mem) (base : Nat) : Gh :=
  { g with
    G := fun b o => if ∃ k ver esz rows, base ≤ k ∧ M[k]? = some (.row ver esz rows) ∧ g.cur M k = some b then w.cell? ⟨b, o, none⟩ else g.G b o
    Gm := fun b => if ∃ k es, base ≤ k ∧ M[k]? = some (.mp es) ∧ g.cur M k = some b then (match w.heap[b]? with | some (.map l _) => some l.toList | _ => none) else g.Gm b }
theorem Gh.frzR_le (hw : WR lo Fz wb g M w) : g.le (g.frzR w M base) := by
  refine ⟨fun b o v h => ?_, fun b es h => ?_, Nat.le_refl _, fun _ _ h => h, fun _ _ _ _ h => h, rfl, rfl⟩
  · simp only [Gh.frzR]
    rw [if_neg]
    · exact h
    · rintro ⟨k, _, _, _, _, _, hk⟩
      rw [hw.sep k b hk o] at h
      cases h
  · simp only [Gh.frzR]
    rw [if_neg]
    · exact h
    · rintro ⟨k, _, _, _, hk⟩
      rw [hw.sep2 k b hk] at h
      cases h
theorem Gh.frzR_cell (k b ver esz : Nat) (rows : List (List AV)) (hk : base ≤ k) (hM : M[k]? = some (.row ver esz rows)) (h : g.cur M k = some b) (o : Nat) : (g.frzR w M base).G b o = w.cell? ⟨b, o, none⟩ := by
  simp only [Gh.frzR]
  rw [if_pos ⟨k, ver, esz, rows, hk, hM, h⟩]
theorem Gh.frzR_map (k b : Nat) (es : List (Value × AV)) (l : Array MapEntry) (cl : Nat) (hk : base ≤ k) (hM : M[k]? = some (.mp es)) (h : g.cur M k = some b) (hh : w.heap[b]? = some (.map l cl)) : (g.frzR w M base).Gm b = some l.toList := by
  simp only [Gh.frzR]
  rw [if_pos ⟨k, es, hk, hM, h⟩, hh]
theorem VR.frzR (hw : WR lo Fz wb g M w) (hlb : lo ≤ base) (n : Nat) (a : AV) (y : Value) (h : VR g a y) : VR (g.frzR w M base) (frz M base n a) y :=
  VR.frzG hw (Gh.frzR_le hw) (fun k b hk hc => by
    rcases Nat.lt_or_ge b g.N with h | h
    · exact absurd (hw.old b h) (hw.own k b hc (Nat.le_trans hlb hk))
    · exact h) Gh.frzR_cell Gh.frzR_map n a y h
def frzObj (M : Mem) (m n k : Nat) : AObj → AObj
  | .cells cs => .cells (cs.map (frz M m n))
  | .row ver esz rows => if m ≤ k then .gone else .row ver esz (rows.map fun r => r.map (frz M m n))
  | .mp es => if m ≤ k then .gone else .mp (es.map fun e => (e.1, frz M m n e.2))
  | .resv => .resv
  | .hid => .hid
  | .gone => .gone
def frzM (own m n : Nat) (M : Mem) : Mem := M.mapIdx fun k o => if own ≤ k then frzObj M m n k o else o
theorem frzM_length (own m n : Nat) (M : Mem) : (frzM own m n M).length = M.length := by simp [frzM]
theorem frzM_get (own m n : Nat) (M : Mem) (k : Nat) : (frzM own m n M)[k]? = (M[k]?).map fun o => if own ≤ k then frzObj M m n k o else o := by simp [frzM, List.getElem?_mapIdx]
theorem EntR_frz {g' : Gh} {f : AV → AV} (hf : ∀ a y, VR g a y → VR g' (f a) y) : ∀ (es : List (Value × AV)) (l : List MapEntry), EntR g es l → EntR g' (es.map fun e => (e.1, f e.2)) l
  | [], l, h => h
  | e :: es, l, h => by
    obtain ⟨m, ms, h1, h2, h3, h4⟩ := h
    exact ⟨m, ms, h1, h2, hf _ _ h3, EntR_frz hf es ms h4⟩
theorem RowsV_frz {g' : Gh} {f : AV → AV} {esz : Nat} (hf : ∀ a y, VR g a y → VR g' (f a) y) : ∀ (r : List (List AV)) (l : List Value), RowsV g esz r l → RowsV g' esz (r.map fun r => r.map f) l
  | [], _, _ => trivial
  | r :: rs, l, h => by
    unfold RowsV at h
    simp only [List.map_cons]
    unfold RowsV
    exact ⟨h.1, VRs_frz hf _ _ h.2.1, RowsV_frz hf rs _ h.2.2⟩
theorem WR.frzM {own : Nat} (hw : WR lo Fz wb g M w) (hlo : lo ≤ own) (ho : own ≤ base) (n : Nat) :
    WR lo Fz wb (g.frzR w M base) (frzM own base n M) w ∧ Step lo Fz g M (g.frzR w M base) (Go.Ag.frzM own base n M) := by
  have hle := Gh.frzR_le (base := base) hw
  have cur : ∀ {k b}, (g.frzR w M base).cur (Go.Ag.frzM own base n M) k = some b → g.cur M k = some b ∧ (base ≤ k → (∀ ver esz rows, M[k]? ≠ some (.row ver esz rows)) ∧ ∀ es, M[k]? ≠ some (.mp es)) := by
    intro k b h
    obtain ⟨o, h1, h2⟩ := cur_some h
    rw [frzM_get, Option.map_eq_some_iff] at h1
    obtain ⟨o', h3, rfl⟩ := h1
    rw [cur_get h3]
    split at h2
    · rename_i hk
      cases o' with
      | cells cs => exact ⟨h2, fun _ => ⟨fun _ _ _ e => (by rw [h3] at e; cases e), fun _ e => (by rw [h3] at e; cases e)⟩⟩
      | mp es =>
        simp only [frzObj] at h2
        split at h2
        · simp [Gh.curO] at h2
        · rename_i hk2
          exact ⟨h2, fun hk3 => absurd hk3 hk2⟩
      | row ver esz rows =>
        simp only [frzObj] at h2
        split at h2
        · simp [Gh.curO] at h2
        · rename_i hk2
          exact ⟨h2, fun hk3 => absurd hk3 hk2⟩
      | resv => simp [frzObj, Gh.curO] at h2
      | hid => simp [frzObj, Gh.curO] at h2
      | gone => simp [frzObj, Gh.curO] at h2
    · rename_i hk
      refine ⟨?_, fun hk' => absurd (Nat.le_trans ho hk') hk⟩
      rw [← h2]
      exact (curO_congr (g := g) (g' := g.frzR w M base) rfl rfl o').symm
  have hstep : Step lo Fz g M (g.frzR w M base) (Go.Ag.frzM own base n M) := by
    refine ⟨hle, fun b o hb => ?_, fun b hb => ?_, fun k _ _ => ⟨rfl, rfl⟩, fun k hk hl => ?_, by rw [frzM_length]; exact Nat.le_refl _⟩
    · simp only [Gh.frzR]
      rw [if_neg]
      rintro ⟨k, ver, esz, rows, hk, hM, hc⟩
      exact hw.own k b hc (Nat.le_trans hlo (Nat.le_trans ho hk)) hb
    · simp only [Gh.frzR]
      rw [if_neg]
      rintro ⟨k, es, hk, hM, hc⟩
      exact hw.own k b hc (Nat.le_trans hlo (Nat.le_trans ho hk)) hb
    · rw [frzM_get]
      rcases hk with hk | hk
      · rw [List.getElem?_eq_getElem hl]
        simp only [Option.map_some]
        rw [if_neg (by omega)]
      · rw [hk]
        simp only [Option.map_some]
        split <;> rfl
  refine ⟨⟨hw.os, hw.tape, hw.output, hw.size, hw.block, hw.fz, by rw [frzM_length]; exact hw.len, hw.wf, hw.wfh, ?_, ?_, ?_, fun k b h => hw.own k b (cur h).1, ?_, ?_, fun k k' b h h' => hw.inj _ _ _ (cur h).1 (cur h').1, fun b o hb => ?_, fun b o i hi h hN => ?_, hw.old⟩, hstep⟩
  · intro b o v h
    simp only [Gh.frzR] at h
    split at h
    · exact h
    · exact hw.imm _ _ _ h
  · intro b es h
    simp only [Gh.frzR] at h
    split at h
    · split at h
      · rename_i l cl hl
        simp only [Option.some.injEq] at h
        subst h
        exact ⟨cl, by simpa using hl⟩
      · cases h
    · exact hw.imm2 _ _ h
  · intro k o h
    rw [frzM_get, Option.map_eq_some_iff] at h
    obtain ⟨o', h3, rfl⟩ := h
    have h4 := hw.obj _ _ h3
    split
    · cases o' with
      | cells cs =>
        obtain ⟨b, vs, T, e1, e2, e3⟩ := h4
        exact ⟨b, vs, T, e1, e2, VRs_frz (fun a y q => VR.frzR hw (Nat.le_trans hlo ho) n a y q) _ _ e3⟩
      | mp es =>
        simp only [frzObj]
        split
        · trivial
        · obtain ⟨b, es', cl, e1, e2, e3⟩ := h4
          exact ⟨b, es', cl, e1, e2, EntR_frz (fun a y q => VR.frzR hw (Nat.le_trans hlo ho) n a y q) _ _ e3⟩
      | row ver esz rows =>
        simp only [frzObj]
        split
        · trivial
        · obtain ⟨h0, ob, h1, h2⟩ := h4
          refine ⟨h0, ob, h1, ?_⟩
          rcases h2 with ⟨h2, rfl⟩ | ⟨B, vs, T, rfl, h9, h3, h4, h5, h6, h7, h8⟩
          · exact .inl ⟨h2, rfl⟩
          · exact .inr ⟨B, vs, T, rfl, h9, h3, by rw [List.length_map]; exact h4, h5, h6, h7, RowsV_frz (fun a y q => VR.frzR hw (Nat.le_trans hlo ho) n a y q) _ _ h8⟩
      | resv => exact h4
      | hid => trivial
      | gone => trivial
    · exact h4.frame hle rfl rfl (fun _ _ => rfl)
  · intro k b h o
    obtain ⟨h1, h2⟩ := cur h
    simp only [Gh.frzR]
    rw [if_neg]
    · exact hw.sep _ _ h1 o
    · rintro ⟨k', ver, esz, rows, hk', hM, h3⟩
      have := hw.inj _ _ _ h1 h3
      subst this
      exact (h2 hk').1 _ _ _ hM
  · intro k b h
    obtain ⟨h1, h2⟩ := cur h
    simp only [Gh.frzR]
    rw [if_neg]
    · exact hw.sep2 _ _ h1
    · rintro ⟨k', es, hk', hM, h3⟩
      have := hw.inj _ _ _ h1 h3
      subst this
      exact (h2 hk').2 _ hM
  · obtain ⟨q1, q2, q3, q4⟩ := hw.wko b o hb
    refine ⟨q1, ?_, fun k h => q3 k (cur h).1, q4⟩
    simp only [Gh.frzR]
    rw [if_neg]
    · exact q2
    · rintro ⟨k, _, _, _, _, _, hk⟩
      exact q3 k hk
  · simp only [Gh.frzR] at h
    split at h
    · rename_i hc
      obtain ⟨k, ver, esz, rows, _, hM, hk⟩ := hc
      obtain ⟨_, ob, h1, h2⟩ := hw.obj _ _ hM
      rw [cur_get hM, Gh.curO, h1] at hk
      rcases h2 with ⟨rfl, _⟩ | ⟨B, vs, T, rfl, _, _, _, _, h6, _⟩
      · simp at hk
      · simp at hk; subst hk; exact ⟨vs, T, h6⟩
    · exact hw.imz _ _ _ hi h hN
end
end Go.Ag
