/- ThriftFields: whatever the input, it returns true; each argument reads as' it did. No condition beyond the statement's own. -/
import Derived.Test.YtdaillghcmmhcaaK07
import Derived.Test.YtdaillghcmmhcaaK05
import Derived.Test.YtdaillghcmmhcaaRows
import Derived.WalkKit
import Derived.ProofKit
import Derived.OpenShut
import Derived.ChangeSame
import Derived.JoinedOf
import Derived.JoinedAt
import Derived.RowKit
import Derived.RowKit2
import Derived.ReadAgain
import Derived.ChangeAlike
import Derived.Carry
import Derived.SizedLaws
import Derived.WideShapes
set_option linter.unusedSimpArgs false
set_option linter.unusedVariables false
namespace Go.Proofs.Ytdaillghcmmhcaa.thriftFields
open Go Go.Ag Go.ChangeShapes Go.WideShapes Go.ChangeAt Go.RowKit Go.Proofs.Th
set_option linter.unusedVariables false

theorem own : ownKnob Try.prog.godebug = none := by kernel_rfl
theorem laid : laidOutB Try.prog = true := by kernel_rfl
theorem one_inv {g : Gh} {a : AV} {v : Value} (h : VRs g [a] [v]) : VR g a v := by
  unfold VRs at h
  obtain ⟨u, us, e, hv, _⟩ := h
  cases e
  exact hv

set_option maxRecDepth 100000 in
theorem walk {H : Type} {enc : TypeId × Value → H} {W : World} {base : Nat} {v0 v1 v2 : Value} {d0 d1 d2 : DataW H} {p0 p1 p2 : List MemPlace}
    (k0 : Value.okWide Try.prog W .any base 26 v0) (h0 : DataW.Trod enc Try.prog W 0 (fun _ => true) true 26 v0 d0 p0) (z0 : ∀ n ∈ d0.weights Try.prog 26, n ≤ reachBytes)
    (k1 : Value.okWide Try.prog W .any base 26 v1) (h1 : DataW.Trod enc Try.prog W 0 (fun _ => true) true 26 v1 d1 p1) (z1 : ∀ n ∈ d1.weights Try.prog 26, n ≤ reachBytes)
    (k2 : Value.okWide Try.prog W .any base 3 v2) (h2 : DataW.Trod enc Try.prog W 0 (fun _ => true) true 3 v2 d2 p2) (z2 : ∀ n ∈ d2.weights Try.prog 3, n ≤ reachBytes)
    : Calls Try.prog 6 #[v0, v1, v2] W fun e W' => e = .returned (.bool true) ∧ Below W.heap.size W W' := by
  obtain ⟨c0, rfl, _⟩ := okWide_struct Try.underlying26 k0
  obtain ⟨n0, h0⟩ := h0
  obtain ⟨r0, q0, t0⟩ := open_plain plain n0 26 c0.toList (d0, p0) (List.contains_iff_mem.1 rfl) h0 z0
  obtain ⟨a0, rfl, ha0⟩ := th_of _ _ t0
  obtain ⟨c1, rfl, _⟩ := okWide_struct Try.underlying26 k1
  obtain ⟨n1, h1⟩ := h1
  obtain ⟨r1, q1, t1⟩ := open_plain plain n1 26 c1.toList (d1, p1) (List.contains_iff_mem.1 rfl) h1 z1
  obtain ⟨a1, rfl, ha1⟩ := th_of _ _ t1
  obtain ⟨x2, rfl⟩ := okWide_int Try.underlying3 k2
  obtain ⟨n2, h2⟩ := h2
  obtain ⟨r2, q2, t2⟩ := open_plain plain n2 3 [.int .i64 x2] (d2, p2) (List.contains_iff_mem.1 rfl) h2 z2
  obtain ⟨a2, rfl, ha2⟩ := int_of _ _ t2
  refine fields_calls a0 ha0 a1 ha1 a2 ha2 ?_
  exact VRs.cons (by unfold VR; exact ⟨c0, rfl, q0⟩) (VRs.cons (by unfold VR; exact ⟨c1, rfl, q1⟩) (VRs.one (one_inv q2)))

set_option maxRecDepth 100000 in
theorem lifted (os : Os) (started : os.Started) (H : Type) (enc : TypeId × Value → H) :
    ReturnsInHanded {} Try.checked os 6 .any (Rows.thriftFieldsSpec.pre6 enc Try.prog Try.f6 Rows.thriftFieldsRow.domain false) (Rows.thriftFieldsSpec.post enc Try.prog Try.f6 false true false false) := by
  refine returnsInHanded_of_change_sized (C := Try.checked) own started (by kernel_rfl) Try.func6
    (ChangeSpec.witness6 (enc := enc) (C := Try.checked) false ⟨#[], #[.agg #[.int .i64 0, .int .i64 0, .int .i64 0, .int .i64 0, .string ByteArray.empty, .slice none 0 0, .slice none 0 0], .agg #[.int .i64 0, .int .i64 0, .int .i64 0, .int .i64 0, .string ByteArray.empty, .slice none 0 0, .slice none 0 0], .int .i64 0], []⟩ 8 (by kernel_rfl) (by kernel_rfl) (by kernel_rfl) (by kernel_rfl)) ?_
  intro W base args ds gs before hval0 hW hcnd hsz0 _
  have hval : ∀ (j : Nat) t v, Try.f6.params[j]? = some t → args[j]? = some v → Value.okWide Try.prog W .any base t v := hval0
  have hW' := hW
  obtain ⟨p, q, hA0, hV, rfl, hfz, hnd⟩ := hW
  have hA : DataW.TrodAll enc Try.prog W 0 (fun _ => true) true Try.f6.params.toList args.toList ds p := hA0
  rw [Try.params6] at hA hval
  obtain ⟨v0, vs0, d0, ds0, p0, q0, hargs, rfl, rfl, h0, r0⟩ := trodAll_cons hA
  obtain ⟨v1, vs1, d1, ds1, p1, q1, rfl, rfl, rfl, h1, r1⟩ := trodAll_cons r0
  obtain ⟨v2, vs2, d2, ds2, p2, q2, rfl, rfl, rfl, h2, r2⟩ := trodAll_cons r1
  obtain ⟨rfl, rfl, rfl⟩ := trodAll_nil r2
  obtain rfl : args = #[v0, v1, v2] := by cases args; simp_all
  obtain ⟨rfl, rfl⟩ := trodVars_none hV
  have k0 := hval 0 26 v0 rfl rfl
  have k1 := hval 1 26 v1 rfl rfl
  have k2 := hval 2 3 v2 rfl rfl
  have hsz : ∀ n ∈ DataW.weightsEach Try.prog ([26, 26, 3] ++ []) [d0, d1, d2], n ≤ reachBytes := fun n hn => of_decide_eq_true (List.all_eq_true.1 hsz0 n hn)
  have z0 : ∀ n ∈ d0.weights Try.prog 26, n ≤ reachBytes := fun n hn => hsz n (DataW.weights_mem_each (j := 0) rfl rfl n hn)
  have z1 : ∀ n ∈ d1.weights Try.prog 26, n ≤ reachBytes := fun n hn => hsz n (DataW.weights_mem_each (j := 1) rfl rfl n hn)
  have z2 : ∀ n ∈ d2.weights Try.prog 3, n ≤ reachBytes := fun n hn => hsz n (DataW.weights_mem_each (j := 2) rfl rfl n hn)
  clear hA0 hval0
  simp only [List.append_nil] at hW'
  refine (walk k0 h0 z0 k1 h1 z1 k2 h2 z2).mono fun e W' ⟨he, hg⟩ => ?_
  subst he
  have l0 : ∀ x ∈ p0, x.block < W.heap.size := fun x hx => by simpa using hW'.lt x (by simp [hx])
  have l1 : ∀ x ∈ p1, x.block < W.heap.size := fun x hx => by simpa using hW'.lt x (by simp [hx])
  have l2 : ∀ x ∈ p2, x.block < W.heap.size := fun x hx => by simpa using hW'.lt x (by simp [hx])
  refine ⟨_, rfl, _, _, _, [], p0 ++ (p1 ++ p2), [], hW', trodAll_cons_mk (shut_bool Try.underlying4 _) trodAll_mk0, ?_, rfl, hg.frame _, fun h => by cases h⟩
  exact trodAll_cons_mk (Below.trod laid (by kernel_rfl) (of_decide_eq_true (by kernel_rfl)) h0 hg fun x hx => l0 x hx) (trodAll_mk2 (Below.trod laid (by kernel_rfl) (of_decide_eq_true (by kernel_rfl)) h1 hg fun x hx => l1 x hx) (Below.trod laid (by kernel_rfl) (of_decide_eq_true (by kernel_rfl)) h2 hg fun x hx => l2 x hx))

theorem proved : Rows.ThriftFieldsSaid :=
  OpenClaim.holds_of_wide 6 Try.f6 rfl rfl rfl rfl rfl rfl rfl ⟨rfl, rfl, rfl, rfl, rfl⟩ rfl rfl rfl rfl rfl (by kernel_rfl) Try.func6 (by kernel_rfl)
    (of_decide_eq_true (by kernel_rfl)) (by unfold Func.isWrapper; first | (rw [if_pos (by decide +kernel)]; kernel_rfl) | (rw [if_neg (by decide +kernel)]; exact ⟨rfl, rfl⟩))
    (fun os started H enc _ => lifted os started H enc)
#print axioms proved
end Go.Proofs.Ytdaillghcmmhcaa.thriftFields
