/- PagesSuits: whatever the input, it returns true; each argument reads as' it did. No condition beyond the statement's own. -/
import Derived.Test.YteijecfbdefcbaaGreatK05
import Derived.Test.YteijecfbdefcbaaGreatRows
import Derived.WalkKit
import Derived.ProofKit
import Derived.OpenShut
import Derived.ChangeSame
import Derived.JoinedOf
import Derived.JoinedAt
import Derived.RowKit
import Derived.RowKit2
import Derived.ReadAgain
import Derived.ChangeAlike
import Derived.Carry
import Derived.SizedLaws
import Derived.WideShapes
set_option linter.unusedSimpArgs false
set_option linter.unusedVariables false
namespace Go.Proofs.YteijecfbdefcbaaGreat.pagesSuits
open Go Go.Ag Go.ChangeShapes Go.WideShapes Go.ChangeAt Go.RowKit Go.Proofs.Th
set_option linter.unusedVariables false

theorem own : ownKnob Tryz.prog.godebug = none := by kernel_rfl
theorem laid : laidOutB Tryz.prog = true := by kernel_rfl
theorem one_inv {g : Gh} {a : AV} {v : Value} (h : VRs g [a] [v]) : VR g a v := by
  unfold VRs at h
  obtain ⟨u, us, e, hv, _⟩ := h
  cases e
  exact hv

set_option maxRecDepth 100000 in
theorem walk {H : Type} {enc : TypeId × Value → H} {W : World} {base : Nat} {v0 v1 : Value} {d0 d1 : DataW H} {p0 p1 : List MemPlace}
    (k0 : Value.okWide Tryz.prog W .any base 22 v0) (h0 : DataW.Trod enc Tryz.prog W 0 (fun _ => true) true 22 v0 d0 p0) (z0 : ∀ n ∈ d0.weights Tryz.prog 22, n ≤ reachBytes)
    (k1 : Value.okWide Tryz.prog W .any base 25 v1) (h1 : DataW.Trod enc Tryz.prog W 0 (fun _ => true) true 25 v1 d1 p1) (z1 : ∀ n ∈ d1.weights Tryz.prog 25, n ≤ reachBytes)
    : Calls Tryz.prog 3 #[v0, v1] W fun e W' => e = .returned (.bool true) ∧ Below W.heap.size W W' := by
  obtain ⟨x0, rfl⟩ := okWide_int Tryz.underlying22 k0
  obtain ⟨n0, h0⟩ := h0
  obtain ⟨r0, q0, t0⟩ := open_plain plainP n0 22 [.int .i64 x0] (d0, p0) (List.contains_iff_mem.1 rfl) h0 z0
  obtain ⟨a0, rfl, ha0⟩ := enc_of _ _ t0
  obtain ⟨c1, rfl, _⟩ := okWide_struct Tryz.underlying25 k1
  obtain ⟨n1, h1⟩ := h1
  obtain ⟨r1, q1, t1⟩ := open_plain plainP n1 25 c1.toList (d1, p1) (List.contains_iff_mem.1 rfl) h1 z1
  obtain ⟨a1, rfl, ha1⟩ := typ_of _ _ t1
  refine pure_calls pchk (pagesSuits a0 ha0 a1 ha1) ?_
  exact VRs.cons (one_inv q0) (VRs.one (by unfold VR; exact ⟨c1, rfl, q1⟩))

set_option maxRecDepth 100000 in
theorem lifted (os : Os) (started : os.Started) (H : Type) (enc : TypeId × Value → H) :
    ReturnsInHanded {} Tryz.checked os 3 .any (Rows.pagesSuitsSpec.pre6 enc Tryz.prog Tryz.f3 Rows.pagesSuitsRow.domain false) (Rows.pagesSuitsSpec.post enc Tryz.prog Tryz.f3 false true false false) := by
  refine returnsInHanded_of_change_sized (C := Tryz.checked) own started (by kernel_rfl) Tryz.func3
    (ChangeSpec.witness6 (enc := enc) (C := Tryz.checked) false ⟨#[], #[.int .i64 0, .agg #[.int .i64 0, .int .i64 0]], []⟩ 8 (by kernel_rfl) (by kernel_rfl) (by kernel_rfl) (by kernel_rfl)) ?_
  intro W base args ds gs before hval0 hW hcnd hsz0 _
  have hval : ∀ (j : Nat) t v, Tryz.f3.params[j]? = some t → args[j]? = some v → Value.okWide Tryz.prog W .any base t v := hval0
  have hW' := hW
  obtain ⟨p, q, hA0, hV, rfl, hfz, hnd⟩ := hW
  have hA : DataW.TrodAll enc Tryz.prog W 0 (fun _ => true) true Tryz.f3.params.toList args.toList ds p := hA0
  rw [Tryz.params3] at hA hval
  obtain ⟨v0, vs0, d0, ds0, p0, q0, hargs, rfl, rfl, h0, r0⟩ := trodAll_cons hA
  obtain ⟨v1, vs1, d1, ds1, p1, q1, rfl, rfl, rfl, h1, r1⟩ := trodAll_cons r0
  obtain ⟨rfl, rfl, rfl⟩ := trodAll_nil r1
  obtain rfl : args = #[v0, v1] := by cases args; simp_all
  obtain ⟨rfl, rfl⟩ := trodVars_none hV
  have k0 := hval 0 22 v0 rfl rfl
  have k1 := hval 1 25 v1 rfl rfl
  have hsz : ∀ n ∈ DataW.weightsEach Tryz.prog ([22, 25] ++ []) [d0, d1], n ≤ reachBytes := fun n hn => of_decide_eq_true (List.all_eq_true.1 hsz0 n hn)
  have z0 : ∀ n ∈ d0.weights Tryz.prog 22, n ≤ reachBytes := fun n hn => hsz n (DataW.weights_mem_each (j := 0) rfl rfl n hn)
  have z1 : ∀ n ∈ d1.weights Tryz.prog 25, n ≤ reachBytes := fun n hn => hsz n (DataW.weights_mem_each (j := 1) rfl rfl n hn)
  clear hA0 hval0
  simp only [List.append_nil] at hW'
  refine (walk k0 h0 z0 k1 h1 z1).mono fun e W' ⟨he, hg⟩ => ?_
  subst he
  have l0 : ∀ x ∈ p0, x.block < W.heap.size := fun x hx => by simpa using hW'.lt x (by simp [hx])
  have l1 : ∀ x ∈ p1, x.block < W.heap.size := fun x hx => by simpa using hW'.lt x (by simp [hx])
  refine ⟨_, rfl, _, _, _, [], p0 ++ p1, [], hW', trodAll_cons_mk (shut_bool Tryz.underlying4 _) trodAll_mk0, ?_, rfl, hg.frame _, fun h => by cases h⟩
  exact trodAll_mk2 (Below.trod laid (by kernel_rfl) (of_decide_eq_true (by kernel_rfl)) h0 hg fun x hx => l0 x hx) (Below.trod laid (by kernel_rfl) (of_decide_eq_true (by kernel_rfl)) h1 hg fun x hx => l1 x hx)

theorem proved : Rows.PagesSuitsSaid :=
  OpenClaim.holds_of_wide 3 Tryz.f3 rfl rfl rfl rfl rfl rfl rfl ⟨rfl, rfl, rfl, rfl, rfl⟩ rfl rfl rfl rfl rfl (by kernel_rfl) Tryz.func3 (by kernel_rfl)
    (of_decide_eq_true (by kernel_rfl)) (by unfold Func.isWrapper; first | (rw [if_pos (by decide +kernel)]; kernel_rfl) | (rw [if_neg (by decide +kernel)]; exact ⟨rfl, rfl⟩))
    (fun os started H enc _ => lifted os started H enc)
#print axioms proved
end Go.Proofs.YteijecfbdefcbaaGreat.pagesSuits
