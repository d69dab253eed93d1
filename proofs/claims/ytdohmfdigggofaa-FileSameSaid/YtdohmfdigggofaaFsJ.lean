import Derived.Test.YtdohmfdigggofaaFsI
set_option linter.unusedSimpArgs false
set_option linter.unusedVariables false
open Go Go.Ag
namespace Go.Proofs.Fs

/-! ### The trees -/
theorem nget {l : List Node} {i : Nat} (h : i < l.length) : ∃ n r g q s kids, l[i]? = some (.mk n r g q s kids) := by
  obtain ⟨x, hx⟩ : ∃ x, l[i]? = some x := ⟨_, List.getElem?_eq_getElem h⟩
  cases x with | mk n r g q s kids => exact ⟨n, r, g, q, s, kids, hx⟩
theorem nrow_get {l : List Node} {i : Nat} {n : ByteArray} {r : Int} {g : Bool} {q s : Int} {kids : List Node} (h : l[i]? = some (.mk n r g q s kids)) : (nrows l)[i]? = some (N6 n r g q s (nrows kids)) := by
  rw [nrows_map, List.getElem?_map, h]
  simp [Node.cells, N6]

theorem neqs_pAt (l l' : List Node) : neqs l l' = (decide (l'.length = l.length) && (List.range l.length).all fun i => pAt Node.eq l[i]? l'[i]?) :=
  eqs_all neqs Node.eq (by simp [neqs]) (by simp [neqs]) (by simp [neqs]) (by simp [neqs]) l l'

theorem same_nodes17 (N : Nat) : ∀ l l' : List Node, SizeOf.sizeOf l < N → l.length ≤ 9223372036854775807 → noks l → Pure Try.prog ann 17 [.sl none 6 (nrows l), .sl none 6 (nrows l')] (.v (.bool (neqs l l'))) := by
  induction N with
  | zero => intro l l' h; omega
  | succ N ih =>
    intro l l' hN hl hok
    rw [neqs_pAt]
    have := f17 (l1 := nrows l) (l2 := nrows l') (n := l.length) (p := fun i => pAt Node.eq l[i]? l'[i]?) (nrows_len l) hl (nrows_lt l) (nrows_lt l') (by
      intro hlen i hi
      rw [nrows_len] at hlen
      obtain ⟨n, r, g, q, s, kids, hx⟩ := nget hi
      obtain ⟨n', r', g', q', s', kids', hy⟩ := nget (l := l') (i := i) (by omega)
      have hmem := List.mem_of_getElem? hx
      have hsz := List.sizeOf_lt_of_mem hmem
      have hxok := noks_mem hok _ hmem
      simp only [Node.ok] at hxok
      simp only [Node.mk.sizeOf_spec] at hsz
      exact ⟨n, n', r, r', q, q', s, s', g, g', nrows kids, nrows kids', neqs kids kids', nrow_get hx, nrow_get hy, by simp only [hx, hy, pAt, Node.eq], nrows_lt kids, nrows_lt kids', ih kids kids' (by omega) hxok.1 hxok.2⟩)
    rw [nrows_len] at this
    exact this

theorem count_nodes (N : Nat) : ∀ l : List Node, SizeOf.sizeOf l < N → l.length ≤ 9223372036854775807 → noks l → PureI 7 [.sl none 6 (nrows l)] := by
  induction N with
  | zero => intro l h; omega
  | succ N ih =>
    intro l hN hl hok
    refine f7 (nrows_len l) hl (nrows_lt l) ?_
    intro i hi
    obtain ⟨n, r, g, q, s, kids, hx⟩ := nget hi
    have hmem := List.mem_of_getElem? hx
    have hsz := List.sizeOf_lt_of_mem hmem
    have hxok := noks_mem hok _ hmem
    simp only [Node.ok] at hxok
    simp only [Node.mk.sizeOf_spec] at hsz
    exact ⟨_, _, _, _, _, nrows kids, nrow_get hx, nrows_lt kids, ih kids (by omega) hxok.1 hxok.2⟩

theorem frow_get {l : List (List Val)} {i : Nat} {x : List Val} (h : l[i]? = some x) : (frows l)[i]? = some [.sl none 4 (vrows x)] := by
  rw [frows_map, List.getElem?_map, h]; rfl
theorem vget {l : List Val} {i : Nat} (h : i < l.length) : ∃ k a t fs, l[i]? = some (.mk k a t fs) := by
  obtain ⟨x, hx⟩ : ∃ x, l[i]? = some x := ⟨_, List.getElem?_eq_getElem h⟩
  cases x with | mk k a t fs => exact ⟨k, a, t, fs, hx⟩
theorem vrow_get {l : List Val} {i : Nat} {k a : Int} {t : ByteArray} {fs : List (List Val)} (h : l[i]? = some (.mk k a t fs)) : (vrows l)[i]? = some (V4 k a t (frows fs)) := by
  rw [vrows_map, List.getElem?_map, h]
  simp [Val.cells, V4]

theorem some_of_fields {f : FuncId} (hf : ∀ {l1 : List (List AV)} {n : Nat}, l1.length = n → n ≤ 9223372036854775807 → (∀ n, AV.ltss n l1 = true) →
    (∀ i, i < n → ∃ x : List (List AV), l1[i]? = some [.sl none 4 x] ∧ x.length ≤ 9223372036854775807 ∧ (∀ m, AV.ltss m x = true) ∧ ∀ j, j < x.length → ∃ K, ∀ k, K ≤ k → AtI f k x j) → PureI f [.sl none 1 l1]) (N : Nat) :
    ∀ l : List (List Val), SizeOf.sizeOf l < N → l.length ≤ 9223372036854775807 → foks l → PureI f [.sl none 1 (frows l)] := by
  induction N with
  | zero => intro l h; omega
  | succ N ih =>
    intro l hN hl hok
    refine hf (frows_len l) hl (frows_lt l) ?_
    intro i hi
    obtain ⟨x, hx⟩ : ∃ x, l[i]? = some x := ⟨_, List.getElem?_eq_getElem hi⟩
    have hmem := List.mem_of_getElem? hx
    have hsz := List.sizeOf_lt_of_mem hmem
    obtain ⟨hxl, hxok⟩ := foks_mem hok _ hmem
    refine ⟨vrows x, frow_get hx, by rw [vrows_len]; exact hxl, vrows_lt x, fun j hj => ?_⟩
    rw [vrows_len] at hj
    obtain ⟨k0, a, t, fs, hv⟩ := vget hj
    have hmem2 := List.mem_of_getElem? hv
    have hsz2 := List.sizeOf_lt_of_mem hmem2
    have hvok := voks_mem hxok _ hmem2
    simp only [Val.ok] at hvok
    simp only [Val.mk.sizeOf_spec] at hsz2
    obtain ⟨K, h⟩ := ih fs (by omega) hvok.1 hvok.2
    exact ⟨K, fun k hk => ⟨k0, a, t, frows fs, vrow_get hv, frows_lt fs, h k hk⟩⟩

theorem same_fields18 (N : Nat) : ∀ l l' : List (List Val), SizeOf.sizeOf l < N → l.length ≤ 9223372036854775807 → foks l → Pure Try.prog ann 18 [.sl none 1 (frows l), .sl none 1 (frows l')] (.v (.bool (feqs l l'))) := by
  induction N with
  | zero => intro l l' h; omega
  | succ N ih =>
    intro l l' hN hl hok
    rw [feqs_all]
    have := f18 (l1 := frows l) (l2 := frows l') (n := l.length) (p := fun i => pAt veqs l[i]? l'[i]?) (q := fun i j => pAt Val.eq ((l[i]?.getD [])[j]?) ((l'[i]?.getD [])[j]?)) (frows_len l) hl (frows_lt l) (frows_lt l') (by
      intro hlen i hi
      rw [frows_len] at hlen
      obtain ⟨x, hx⟩ : ∃ x, l[i]? = some x := ⟨_, List.getElem?_eq_getElem hi⟩
      obtain ⟨y, hy⟩ : ∃ y, l'[i]? = some y := ⟨_, List.getElem?_eq_getElem (by omega)⟩
      have hmem := List.mem_of_getElem? hx
      have hsz := List.sizeOf_lt_of_mem hmem
      obtain ⟨hxl, hxok⟩ := foks_mem hok _ hmem
      refine ⟨vrows x, vrows y, frow_get hx, frow_get hy, by rw [vrows_len]; exact hxl, vrows_lt x, vrows_lt y, ?_, ?_⟩
      · simp only [hx, hy, pAt, vrows_len, Option.getD_some]
        exact veqs_all x y
      · rw [vrows_len, vrows_len]
        intro hxy j hj
        obtain ⟨k0, a, t, fs, hv⟩ := vget hj
        obtain ⟨k0', a', t', fs', hv'⟩ := vget (l := y) (i := j) (by omega)
        have hmem2 := List.mem_of_getElem? hv
        have hsz2 := List.sizeOf_lt_of_mem hmem2
        have hvok := voks_mem hxok _ hmem2
        simp only [Val.ok] at hvok
        simp only [Val.mk.sizeOf_spec] at hsz2
        obtain ⟨K, h⟩ := ih fs fs' (by omega) hvok.1 hvok.2
        exact ⟨K, fun k hk => ⟨k0, k0', a, a', t, t', frows fs, frows fs', feqs fs fs', vrow_get hv, vrow_get hv', by simp only [hx, hy, hv, hv', Option.getD_some, pAt, Val.eq], h k hk⟩⟩)
    rw [frows_len] at this
    exact this

/-! ### Tables -/
def rrows (l : List (List (List Val))) : List (List AV) := l.map fun x => [.sl none 1 (frows x)]
theorem rrows_len (l : List (List (List Val))) : (rrows l).length = l.length := by simp [rrows]
theorem rrows_lt : ∀ (l : List (List (List Val))) (m : Nat), AV.ltss m (rrows l) = true
  | [], m => by simp [rrows, AV.ltss]
  | x :: xs, m => by
    have := rrows_lt xs m
    unfold rrows at this ⊢
    simp [AV.ltss, AV.lts, AV.lt, frows_lt x m, this]
theorem rget {l : List (List (List Val))} {i : Nat} {x : List (List Val)} (h : l[i]? = some x) : (rrows l)[i]? = some [.sl none 1 (frows x)] := by
  rw [rrows, List.getElem?_map, h]; rfl
def reqs : List (List (List Val)) → List (List (List Val)) → Bool
  | [], [] => true
  | x :: xs, y :: ys => feqs x y && reqs xs ys
  | _, _ => false
theorem reqs_all (l l' : List (List (List Val))) : reqs l l' = (decide (l'.length = l.length) && (List.range l.length).all fun i => pAt feqs l[i]? l'[i]?) :=
  eqs_all reqs feqs (by simp [reqs]) (by simp [reqs]) (by simp [reqs]) (by simp [reqs]) l l'
def roks (l : List (List (List Val))) : Prop := l.length ≤ 9223372036854775807 ∧ ∀ x ∈ l, x.length ≤ 9223372036854775807 ∧ foks x

theorem same_recs11 {l l' : List (List (List Val))} (h : roks l) : Pure Try.prog ann 11 [.sl none 1 (rrows l), .sl none 1 (rrows l')] (.v (.bool (reqs l l'))) := by
  refine f11 ?_
  rw [reqs_all]
  have mem : ∀ {l : List (List (List Val))} {r}, r ∈ rrows l → ∃ x, r = [.sl none 1 (frows x)] := by
    intro l r hr
    simp only [rrows, List.mem_map] at hr
    obtain ⟨x, _, rfl⟩ := hr
    exact ⟨x, rfl⟩
  have := eqf_15 (l1 := rrows l) (l2 := rrows l') (n := l.length) (p := fun i => pAt feqs l[i]? l'[i]?) (rrows_len l) h.1
    (fun r hr => by obtain ⟨x, rfl⟩ := mem hr; rfl) (fun r hr => by obtain ⟨x, rfl⟩ := mem hr; rfl)
    (fun r hr => by obtain ⟨x, rfl⟩ := mem hr; rfl) (fun r hr => by obtain ⟨x, rfl⟩ := mem hr; rfl) (rrows_lt l) (rrows_lt l') (by
      intro _ i r1 r2 h1 h2
      rw [rrows, List.getElem?_map, Option.map_eq_some_iff] at h1 h2
      obtain ⟨x, hx, rfl⟩ := h1
      obtain ⟨y, hy, rfl⟩ := h2
      simp only [hx, hy, pAt]
      have hxok := h.2 x (List.mem_of_getElem? hx)
      exact f16 (same_fields _ x y (Nat.lt_succ_self _) hxok.1 hxok.2))
  rw [rrows_len] at this
  exact this
theorem same_recs13 {l l' : List (List (List Val))} (h : roks l) : Pure Try.prog ann 13 [.sl none 1 (rrows l), .sl none 1 (rrows l')] (.v (.bool (reqs l l'))) := by
  rw [reqs_all]
  have := f13 (l1 := rrows l) (l2 := rrows l') (n := l.length) (p := fun i => pAt feqs l[i]? l'[i]?) (rrows_len l) h.1 (rrows_lt l) (rrows_lt l') (by
      intro _ i r1 r2 h1 h2
      rw [rrows, List.getElem?_map, Option.map_eq_some_iff] at h1 h2
      obtain ⟨x, hx, rfl⟩ := h1
      obtain ⟨y, hy, rfl⟩ := h2
      simp only [hx, hy, pAt]
      have hxok := h.2 x (List.mem_of_getElem? hx)
      exact ⟨_, _, rfl, rfl, same_fields18 _ x y (Nat.lt_succ_self _) hxok.1 hxok.2⟩)
  rw [rrows_len] at this
  exact this

mutual
theorem Node.refl : ∀ x : Node, x.eq x = true
  | .mk n r g k s kids => by simp [Node.eq, neqs_refl kids]
theorem neqs_refl : ∀ l : List Node, neqs l l = true
  | [] => by simp [neqs]
  | x :: xs => by simp [neqs, Node.refl x, neqs_refl xs]
end
theorem ba_refl (t : ByteArray) : (t == t) = true := by
  show (t.data == t.data) = true
  simp
mutual
theorem Val.refl : ∀ x : Val, x.eq x = true
  | .mk k i t fs => by simp [Val.eq, feqs_refl fs, ba_refl]
theorem veqs_refl : ∀ l : List Val, veqs l l = true
  | [] => by simp [veqs]
  | x :: xs => by simp [veqs, Val.refl x, veqs_refl xs]
theorem feqs_refl : ∀ l : List (List Val), feqs l l = true
  | [] => by simp [feqs]
  | x :: xs => by simp [feqs, veqs_refl x, feqs_refl xs]
end
theorem reqs_refl : ∀ l, reqs l l = true
  | [] => rfl
  | x :: xs => by simp [reqs, feqs_refl x, reqs_refl xs]

structure Tbl where
  name : ByteArray
  nodes : List Node
  recs : List (List (List Val))
def Tbl.ok (t : Tbl) : Prop := t.nodes.length ≤ 9223372036854775807 ∧ noks t.nodes ∧ roks t.recs
def Tbl.av (t : Tbl) : AV := Tab t.name (nrows t.nodes) (rrows t.recs)

theorem heavy_ok {t : Tbl} (h : t.ok) : PureB 4 [t.av] := by
  obtain ⟨h1, h2, h3⟩ := h
  refine f4 (rrows_len t.recs) h3.1 (nrows_lt _) (rrows_lt _) (count_nodes _ t.nodes (Nat.lt_succ_self _) h1 h2) ?_
  intro i hi
  obtain ⟨x, hx⟩ : ∃ x, t.recs[i]? = some x := ⟨_, List.getElem?_eq_getElem hi⟩
  have hxok := h3.2 x (List.mem_of_getElem? hx)
  exact ⟨frows x, rget hx, frows_lt x, some_of_fields f8 _ x (Nat.lt_succ_self _) hxok.1 hxok.2, some_of_fields f9 _ x (Nat.lt_succ_self _) hxok.1 hxok.2⟩

theorem same5 {a b : Tbl} (h : a.ok) : Pure Try.prog ann 5 [a.av, b.av] (.v (.bool ((a.name.toList == b.name.toList && neqs a.nodes b.nodes) && reqs a.recs b.recs))) :=
  f5 (f10 (same_nodes _ a.nodes b.nodes (Nat.lt_succ_self _) h.1 h.2.1)) (same_recs11 h.2.2)
theorem same6 {a b : Tbl} (h : a.ok) : Pure Try.prog ann 6 [a.av, b.av] (.v (.bool ((a.name.toList == b.name.toList && neqs a.nodes b.nodes) && reqs a.recs b.recs))) :=
  f6 (f12 (same_nodes17 _ a.nodes b.nodes (Nat.lt_succ_self _) h.1 h.2.1)) (same_recs13 h.2.2)

/-- The law, of any two tables. -/
theorem law (a b : Tbl) (ha : a.ok) (hb : b.ok) : Pure Try.prog ann 3 [a.av, b.av] (.v (.bool true)) := by
  refine f3 (heavy_ok ha) (heavy_ok hb) (same5 ha) (same6 ha) ?_
  have := same5 (a := a) (b := a) ha
  rw [neqs_refl, reqs_refl, beq_self_eq_true] at this
  exact this
end Go.Proofs.Fs
