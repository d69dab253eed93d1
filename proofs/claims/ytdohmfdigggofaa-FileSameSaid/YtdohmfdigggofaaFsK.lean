/- TABLES: what a value of the type is, as the law's own data. -/
import Derived.Test.YtdohmfdigggofaaFsJ
import Derived.Test.YtdohmfdigggofaaAg10
set_option linter.unusedSimpArgs false
set_option linter.unusedVariables false
open Go Go.Ag
namespace Go.Proofs.Fs
theorem sh27 : shapeOf Try.prog 27 = .st [24, 25] := by kernel_rfl
theorem sh24 : shapeOf Try.prog 24 = .st [9, 22] := by kernel_rfl
theorem sh22 : shapeOf Try.prog 22 = .sl 40 6 := by kernel_rfl
theorem sh25 : shapeOf Try.prog 25 = .sl 34 1 := by kernel_rfl
theorem sh34 : shapeOf Try.prog 34 = .st [32] := by kernel_rfl
theorem sh40 : shapeOf Try.prog 40 = .st [9, 37, 4, 38, 3, 22] := by kernel_rfl
theorem sh41 : shapeOf Try.prog 41 = .sl 47 4 := by kernel_rfl
theorem sh43 : shapeOf Try.prog 43 = .st [41] := by kernel_rfl
theorem sh45 : shapeOf Try.prog 45 = .st [38, 2, 9] := by kernel_rfl
theorem sh47 : shapeOf Try.prog 47 = .st [45, 32] := by kernel_rfl
theorem sh32 : shapeOf Try.prog 32 = .sl 43 1 := by kernel_rfl
theorem sh3 : shapeOf Try.prog 3 = .int .i64 := by kernel_rfl
theorem sh2 : shapeOf Try.prog 2 = .int .i64 := by kernel_rfl
theorem sh37 : shapeOf Try.prog 37 = .int .i64 := by kernel_rfl
theorem sh38 : shapeOf Try.prog 38 = .int .i64 := by kernel_rfl
theorem sh4 : shapeOf Try.prog 4 = .bool := by kernel_rfl
theorem sh9 : shapeOf Try.prog 9 = .str := by kernel_rfl
theorem plain : plainS Try.prog [27, 24, 22, 25, 34, 40, 41, 43, 45, 47, 32, 3, 2, 37, 38, 4, 9] = true := by kernel_rfl

theorem noks_of {l : List Node} (h : ∀ x ∈ l, x.ok) : noks l := by
  induction l with
  | nil => trivial
  | cons x xs ih => exact ⟨h x (List.mem_cons_self ..), ih fun y hy => h y (List.mem_cons_of_mem _ hy)⟩
theorem voks_of {l : List Val} (h : ∀ x ∈ l, x.ok) : voks l := by
  induction l with
  | nil => trivial
  | cons x xs ih => exact ⟨h x (List.mem_cons_self ..), ih fun y hy => h y (List.mem_cons_of_mem _ hy)⟩
theorem foks_of {l : List (List Val)} (h : ∀ x ∈ l, x.length ≤ 9223372036854775807 ∧ voks x) : foks l := by
  induction l with
  | nil => trivial
  | cons x xs ih => exact ⟨h x (List.mem_cons_self ..), ih fun y hy => h y (List.mem_cons_of_mem _ hy)⟩

theorem node_of : ∀ (n : Nat) (r : List AV), WT Try.prog n 40 r → ∃ x : Node, r = x.cells ∧ x.ok := by
  intro n
  induction n using Nat.strongRecOn with
  | _ n ih =>
    intro r h
    obtain ⟨m, rfl, hkm⟩ := h.st sh40
    obtain ⟨_, _, rfl, q1, _, _, rfl, q2, _, _, rfl, q3, _, _, rfl, q4, _, _, rfl, q5, _, _, rfl, q6, rfl⟩ := hkm
    obtain ⟨s, rfl, _⟩ := q1.str sh9
    obtain ⟨i, rfl, _⟩ := q2.int sh37
    obtain ⟨b, rfl⟩ := q3.bool sh4
    obtain ⟨j, rfl, _⟩ := q4.int sh38
    obtain ⟨k, rfl, _⟩ := q5.int sh3
    obtain ⟨m', rows, rfl, rfl, hl, hr⟩ := q6.sl sh22
    obtain ⟨l, rfl, hll, hq⟩ := rows_lift fun r hr' => ih m' (by omega) r (hr r hr')
    exact ⟨.mk s i b j k l, by simp only [Node.cells, nrows_map]; rfl, by rw [hll]; exact hl, noks_of hq⟩

theorem val_of : ∀ (n : Nat) (r : List AV), WT Try.prog n 47 r → ∃ x : Val, r = x.cells ∧ x.ok := by
  intro n
  induction n using Nat.strongRecOn with
  | _ n ih =>
    intro r h
    obtain ⟨m, rfl, hkm⟩ := h.st sh47
    obtain ⟨_, _, rfl, q1, _, _, rfl, q2, rfl⟩ := hkm
    obtain ⟨m1, rfl, hkm1⟩ := q1.st sh45
    obtain ⟨_, _, rfl, q3, _, _, rfl, q4, _, _, rfl, q5, rfl⟩ := hkm1
    obtain ⟨i, rfl, _⟩ := q3.int sh38
    obtain ⟨j, rfl, _⟩ := q4.int sh2
    obtain ⟨s, rfl, _⟩ := q5.str sh9
    obtain ⟨m2, rows, _, rfl, hl, hr⟩ := q2.sl sh32
    obtain ⟨l, rfl, hll, hq⟩ := rows_lift (c := fun x => [.sl none 4 (vrows x)]) (Q := fun x => x.length ≤ 9223372036854775807 ∧ voks x) fun r hr' => by
      obtain ⟨m3, _, hkm3⟩ := (hr r hr').st sh43
      obtain ⟨_, _, rfl, q6, rfl⟩ := hkm3
      obtain ⟨m4, rows, _, rfl, hl, hr⟩ := q6.sl sh41
      obtain ⟨l, rfl, hll, hq⟩ := rows_lift fun r hr' => ih m4 (by omega) r (hr r hr')
      exact ⟨l, by simp only [vrows_map]; rfl, by rw [hll]; exact hl, voks_of hq⟩
    exact ⟨.mk i j s l, by simp only [Val.cells, frows_map]; rfl, by rw [hll]; exact hl, foks_of hq⟩

theorem tbl_of (n : Nat) (r : List AV) (h : WT Try.prog n 27 r) : ∃ x : Tbl, .agg r = x.av ∧ x.ok := by
  obtain ⟨m, rfl, hkm⟩ := h.st sh27
  obtain ⟨_, _, rfl, q1, _, _, rfl, q2, rfl⟩ := hkm
  obtain ⟨m, rfl, hkm⟩ := q1.st sh24
  obtain ⟨_, _, rfl, q3, _, _, rfl, q4, rfl⟩ := hkm
  obtain ⟨s, rfl, _⟩ := q3.str sh9
  obtain ⟨m', rows, _, rfl, hl, hr⟩ := q4.sl sh22
  obtain ⟨l, rfl, hll, hq⟩ := rows_lift fun r hr' => node_of m' r (hr r hr')
  obtain ⟨m', rows, _, rfl, hl2, hr⟩ := q2.sl sh25
  obtain ⟨l2, rfl, hll2, hq2⟩ := rows_lift (c := fun x => [.sl none 1 (frows x)]) (Q := fun x : List (List Val) => x.length ≤ 9223372036854775807 ∧ foks x) fun r hr' => by
    obtain ⟨m3, _, hkm3⟩ := (hr r hr').st sh34
    obtain ⟨_, _, rfl, q6, rfl⟩ := hkm3
    obtain ⟨m2, rows, _, rfl, hl, hr⟩ := q6.sl sh32
    obtain ⟨l, rfl, hll, hq⟩ := rows_lift (c := fun x => [.sl none 4 (vrows x)]) (Q := fun x => x.length ≤ 9223372036854775807 ∧ voks x) fun r hr' => by
      obtain ⟨m3, _, hkm3⟩ := (hr r hr').st sh43
      obtain ⟨_, _, rfl, q6, rfl⟩ := hkm3
      obtain ⟨m4, rows, _, rfl, hl, hr⟩ := q6.sl sh41
      obtain ⟨l, rfl, hll, hq⟩ := rows_lift fun r hr' => val_of m4 r (hr r hr')
      exact ⟨l, by simp only [vrows_map]; rfl, by rw [hll]; exact hl, voks_of hq⟩
    exact ⟨l, by simp only [frows_map]; rfl, by rw [hll]; exact hl, foks_of hq⟩
  exact ⟨⟨s, l, l2⟩, by simp only [Tbl.av, Tab, nrows_map, rrows]; rfl, by rw [hll]; exact hl, noks_of hq, by rw [hll2]; exact hl2, hq2⟩
end Go.Proofs.Fs
