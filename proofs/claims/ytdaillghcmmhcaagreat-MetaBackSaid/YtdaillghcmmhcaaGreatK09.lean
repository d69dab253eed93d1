/- META: arguments as' values. -/
import Derived.Test.YtdaillghcmmhcaaGreatK08
import Derived.Test.YtdaillghcmmhcaaGreatK06
set_option linter.unusedSimpArgs false
set_option linter.unusedVariables false
open Go Go.Ag
namespace Go.Proofs.Th
theorem shq28 : shapeOf Tryz.prog 28 = .st [22, 3, 3, 23, 3, 24, 3, 3, 3, 3, 4, 26] := by kernel_rfl
theorem shq26 : shapeOf Tryz.prog 26 = .st [3, 4, 9, 9] := by kernel_rfl
theorem shq22 : shapeOf Tryz.prog 22 = .int .i64 := by kernel_rfl
theorem shq3 : shapeOf Tryz.prog 3 = .int .i64 := by kernel_rfl
theorem shq23 : shapeOf Tryz.prog 23 = .int .u32 := by kernel_rfl
theorem shq24 : shapeOf Tryz.prog 24 = .int .i64 := by kernel_rfl
theorem shq4 : shapeOf Tryz.prog 4 = .bool := by kernel_rfl
theorem shq9 : shapeOf Tryz.prog 9 = .str := by kernel_rfl
theorem shq52 : shapeOf Tryz.prog 52 = .st [3, 49, 3, 50, 9] := by kernel_rfl
theorem shq49 : shapeOf Tryz.prog 49 = .sl 69 5 := by kernel_rfl
theorem shq69 : shapeOf Tryz.prog 69 = .st [9, 67, 3, 66, 3] := by kernel_rfl
theorem shq67 : shapeOf Tryz.prog 67 = .int .i64 := by kernel_rfl
theorem shq66 : shapeOf Tryz.prog 66 = .int .i64 := by kernel_rfl
theorem shq50 : shapeOf Tryz.prog 50 = .sl 89 3 := by kernel_rfl
theorem shq89 : shapeOf Tryz.prog 89 = .st [3, 3, 87] := by kernel_rfl
theorem shq87 : shapeOf Tryz.prog 87 = .sl 94 13 := by kernel_rfl
theorem shq94 : shapeOf Tryz.prog 94 = .st [90, 66, 91, 92, 3, 3, 3, 3, 3, 26] := by kernel_rfl
theorem shq90 : shapeOf Tryz.prog 90 = .sl 9 1 := by kernel_rfl
theorem shq91 : shapeOf Tryz.prog 91 = .sl 24 1 := by kernel_rfl
theorem shq92 : shapeOf Tryz.prog 92 = .int .i64 := by kernel_rfl
theorem by9 : Tryz.prog.bytesOf 9 = 16 := by kernel_rfl
theorem by24 : Tryz.prog.bytesOf 24 = 8 := by kernel_rfl
theorem by69 : Tryz.prog.bytesOf 69 = 48 := by kernel_rfl
theorem by89 : Tryz.prog.bytesOf 89 = 40 := by kernel_rfl
theorem by94 : Tryz.prog.bytesOf 94 = 152 := by kernel_rfl
theorem plainM : plainS Tryz.prog [28, 26, 22, 3, 23, 24, 4, 9, 52, 49, 69, 67, 66, 50, 89, 87, 94, 90, 91, 92, 31, 5] = true := by kernel_rfl
theorem u32_wf {i : Int} (h : (Lit.int .u32 i).wf = true) : 0 ≤ i ∧ i ≤ 4294967295 := by
  simp [Lit.wf, IntKind.min, IntKind.max, IntKind.signed, IntKind.bits] at h
  exact h
theorem bstr_data (s : ByteArray) : AV.v (.string s) = .v (.string (bstr s.data.toList)) := by rw [← bstr_of]
theorem data_len (s : ByteArray) : s.data.toList.length = s.size := by simp only [ByteArray.size, Array.length_toList]
def Sts.wf (s : Sts) : Prop := i64 s.nulls ∧ s.least.length ≤ big ∧ s.most.length ≤ big
theorem sts_of (n : Nat) (r : List AV) (h : WT Tryz.prog n 26 r) : ∃ s : Sts, r = s.cells ∧ s.wf := by
  obtain ⟨m, rfl, hkm⟩ := h.st shq26
  obtain ⟨_, _, rfl, q1, _, _, rfl, q2, _, _, rfl, q3, _, _, rfl, q4, rfl⟩ := hkm
  obtain ⟨a, rfl, ha⟩ := q1.int shq3
  obtain ⟨b, rfl⟩ := q2.bool shq4
  obtain ⟨s, rfl, hs⟩ := q3.str shq9
  obtain ⟨t, rfl, ht⟩ := q4.str shq9
  unfold reachBytes at hs ht
  refine ⟨⟨a, b, s.data.toList, t.data.toList⟩, ?_, i64_wf ha, ?_, ?_⟩
  · simp only [Sts.cells, ← bstr_of]; rfl
  · show s.data.toList.length ≤ big
    rw [data_len]; exact hs
  · show t.data.toList.length ≤ big
    rw [data_len]; exact ht
def Hdr.wf (h : Hdr) : Prop := (0 ≤ h.sum ∧ h.sum ≤ 4294967295) ∧ h.st.wf
theorem hdr_of (n : Nat) (r : List AV) (h : WT Tryz.prog n 28 r) : ∃ h : Hdr, r = h.cells ∧ h.wf := by
  obtain ⟨m, rfl, hkm⟩ := h.st shq28
  obtain ⟨_, _, rfl, q1, _, _, rfl, q2, _, _, rfl, q3, _, _, rfl, q4, _, _, rfl, q5, _, _, rfl, q6, _, _, rfl, q7, _, _, rfl, q8, _, _, rfl, q9, _, _, rfl, q10, _, _, rfl, q11, _, _, rfl, q12, rfl⟩ := hkm
  obtain ⟨a1, rfl, _⟩ := q1.int shq22
  obtain ⟨a2, rfl, _⟩ := q2.int shq3
  obtain ⟨a3, rfl, _⟩ := q3.int shq3
  obtain ⟨a4, rfl, h4⟩ := q4.int shq23
  obtain ⟨a5, rfl, _⟩ := q5.int shq3
  obtain ⟨a6, rfl, _⟩ := q6.int shq24
  obtain ⟨a7, rfl, _⟩ := q7.int shq3
  obtain ⟨a8, rfl, _⟩ := q8.int shq3
  obtain ⟨a9, rfl, _⟩ := q9.int shq3
  obtain ⟨a10, rfl, _⟩ := q10.int shq3
  obtain ⟨a11, rfl⟩ := q11.bool shq4
  obtain ⟨s, rfl, hs⟩ := sts_of _ _ q12
  exact ⟨⟨a1, a2, a3, a4, a5, a6, a7, a8, a9, a10, a11, s⟩, by simp only [Hdr.cells, Sts.cells]; rfl, u32_wf h4, hs⟩
def Elm.wf (e : Elm) : Prop := e.name.length ≤ big ∧ i64 e.rep ∧ i64 e.kids ∧ i64 e.kind ∧ i64 e.size
theorem elm_of (n : Nat) (r : List AV) (h : WT Tryz.prog n 69 r) : ∃ e : Elm, r = e.cells ∧ e.wf := by
  obtain ⟨m, rfl, hkm⟩ := h.st shq69
  obtain ⟨_, _, rfl, q1, _, _, rfl, q2, _, _, rfl, q3, _, _, rfl, q4, _, _, rfl, q5, rfl⟩ := hkm
  obtain ⟨s, rfl, hs⟩ := q1.str shq9
  obtain ⟨a2, rfl, h2⟩ := q2.int shq67
  obtain ⟨a3, rfl, h3⟩ := q3.int shq3
  obtain ⟨a4, rfl, h4⟩ := q4.int shq66
  obtain ⟨a5, rfl, h5⟩ := q5.int shq3
  unfold reachBytes at hs
  refine ⟨⟨s.data.toList, a2, a3, a4, a5⟩, by simp only [Elm.cells, ← bstr_of]; rfl, ?_, i64_wf h2, i64_wf h3, i64_wf h4, i64_wf h5⟩
  show s.data.toList.length ≤ big
  rw [data_len]; exact hs
def Chk.wf (c : Chk) : Prop := c.path.length ≤ 1000000000000000 ∧ (∀ s ∈ c.path, s.length ≤ big) ∧ c.encs.length ≤ 1000000000000000 ∧ (∀ e ∈ c.encs, i64 e) ∧ c.st.wf ∧ i64 c.kind ∧ i64 c.codec ∧ i64 c.values ∧ i64 c.raw ∧ i64 c.packed ∧ i64 c.data ∧ i64 c.dict
theorem chk_of (n : Nat) (r : List AV) (h : WT Tryz.prog n 94 r) : ∃ c : Chk, r = c.cells false ∧ c.wf := by
  obtain ⟨m, rfl, hkm⟩ := h.st shq94
  obtain ⟨_, _, rfl, q1, _, _, rfl, q2, _, _, rfl, q3, _, _, rfl, q4, _, _, rfl, q5, _, _, rfl, q6, _, _, rfl, q7, _, _, rfl, q8, _, _, rfl, q9, _, _, rfl, q10, rfl⟩ := hkm
  obtain ⟨m1, rows1, hm1, rfl, hl1, hr1⟩ := q1.sl shq90
  obtain ⟨a2, rfl, h2⟩ := q2.int shq66
  obtain ⟨m3, rows3, hm3, rfl, hl3, hr3⟩ := q3.sl shq91
  obtain ⟨a4, rfl, h4⟩ := q4.int shq92
  obtain ⟨a5, rfl, h5⟩ := q5.int shq3
  obtain ⟨a6, rfl, h6⟩ := q6.int shq3
  obtain ⟨a7, rfl, h7⟩ := q7.int shq3
  obtain ⟨a8, rfl, h8⟩ := q8.int shq3
  obtain ⟨a9, rfl, h9⟩ := q9.int shq3
  obtain ⟨s, rfl, hs⟩ := sts_of _ _ q10
  obtain ⟨l1, rfl, hll1, hq1⟩ := rows_lift (c := fun s : List UInt8 => [.v (.string (bstr s))]) (Q := fun s => s.length ≤ big) fun r hr => by
    obtain ⟨s, rfl, hs⟩ := (hr1 r hr).str shq9
    exact ⟨s.data.toList, by rw [bstr_data], by rw [data_len]; exact hs⟩
  obtain ⟨l3, rfl, hll3, hq3⟩ := rows_lift (c := fun i => [.v (.int .i64 i)]) (Q := i64) fun r hr => by
    obtain ⟨i, rfl, hi⟩ := (hr3 r hr).int shq24
    exact ⟨i, rfl, i64_wf hi⟩
  rw [by9] at hl1
  rw [by24] at hl3
  unfold reachBytes at hl1 hl3
  refine ⟨⟨l1, a2, l3, a4, a5, a6, a7, a8, a9, s⟩, by simp only [Chk.cells, Sts.cells, srows, irows, spS, spE]; rfl, ?_, hq1, ?_, hq3, hs, i64_wf h2, i64_wf h4, i64_wf h5, i64_wf h6, i64_wf h7, i64_wf h8, i64_wf h9⟩
  · show l1.length ≤ _
    rw [hll1]; omega
  · show l3.length ≤ _
    rw [hll3]; omega
def Grp.wf (g : Grp) : Prop := i64 g.rows ∧ i64 g.raw ∧ g.chunks.length ≤ 1000000000000000 ∧ ∀ c ∈ g.chunks, c.wf
theorem grp_of (n : Nat) (r : List AV) (h : WT Tryz.prog n 89 r) : ∃ g : Grp, r = g.cells false ∧ g.wf := by
  obtain ⟨m, rfl, hkm⟩ := h.st shq89
  obtain ⟨_, _, rfl, q1, _, _, rfl, q2, _, _, rfl, q3, rfl⟩ := hkm
  obtain ⟨a1, rfl, h1⟩ := q1.int shq3
  obtain ⟨a2, rfl, h2⟩ := q2.int shq3
  obtain ⟨m3, rows3, hm3, rfl, hl3, hr3⟩ := q3.sl shq87
  obtain ⟨l3, rfl, hll3, hq3⟩ := rows_lift (c := Chk.cells false) (Q := Chk.wf) fun r hr => chk_of _ r (hr3 r hr)
  rw [by94] at hl3
  unfold reachBytes at hl3
  refine ⟨⟨a1, a2, l3⟩, by simp only [Grp.cells, spC]; rfl, i64_wf h1, i64_wf h2, ?_, hq3⟩
  show l3.length ≤ _
  rw [hll3]; omega
def Acc.wf (m : Acc) : Prop := i64 m.version ∧ i64 m.rows ∧ m.schema.length ≤ 1000000000000000 ∧ (∀ e ∈ m.schema, e.wf) ∧ m.groups.length ≤ 1000000000000000 ∧ (∀ g ∈ m.groups, g.wf) ∧ m.by'.length ≤ big
theorem acc_of (n : Nat) (r : List AV) (h : WT Tryz.prog n 52 r) : ∃ m : Acc, r = m.cells false ∧ m.wf := by
  obtain ⟨m, rfl, hkm⟩ := h.st shq52
  obtain ⟨_, _, rfl, q1, _, _, rfl, q2, _, _, rfl, q3, _, _, rfl, q4, _, _, rfl, q5, rfl⟩ := hkm
  obtain ⟨a1, rfl, h1⟩ := q1.int shq3
  obtain ⟨m2, rows2, hm2, rfl, hl2, hr2⟩ := q2.sl shq49
  obtain ⟨a3, rfl, h3⟩ := q3.int shq3
  obtain ⟨m4, rows4, hm4, rfl, hl4, hr4⟩ := q4.sl shq50
  obtain ⟨s, rfl, hs⟩ := q5.str shq9
  obtain ⟨l2, rfl, hll2, hq2⟩ := rows_lift (c := Elm.cells) (Q := Elm.wf) fun r hr => elm_of _ r (hr2 r hr)
  obtain ⟨l4, rfl, hll4, hq4⟩ := rows_lift (c := Grp.cells false) (Q := Grp.wf) fun r hr => grp_of _ r (hr4 r hr)
  rw [by69] at hl2
  rw [by89] at hl4
  unfold reachBytes at hl2 hl4 hs
  refine ⟨⟨a1, l2, a3, l4, s.data.toList⟩, by simp only [Acc.cells, spL, spG, ← bstr_of]; rfl, i64_wf h1, i64_wf h3, ?_, hq2, ?_, hq4, ?_⟩
  · show l2.length ≤ _
    rw [hll2]; omega
  · show l4.length ≤ _
    rw [hll4]; omega
  · show s.data.toList.length ≤ big
    rw [data_len]; exact hs
end Go.Proofs.Th
/- META, the law in plain Lean: what is told is a value of the machine's, of so many bytes. -/
open Go Go.Ag
namespace Go.Proofs.Th
theorem i64_of31 {n : Int} (h : -2147483648 ≤ n ∧ n ≤ 2147483647) : i64 n := ⟨by omega, by omega⟩
theorem ok_num {k n : Int} (hk : i64 k) (hn : i64 n) : (numT k n).ok := ⟨hk, i64_0, i64_0, hn, by simp, by simp, by simp, by simp, trivial⟩
theorem ok_txt {s : List UInt8} (h : s.length ≤ 1048576) : (txtT s).ok := ⟨⟨by omega, by omega⟩, i64_0, i64_0, i64_0, by unfold big; omega, by simp, by simp, by simp, trivial⟩
theorem ok_bool (b : Bool) : (boolT b).ok := ⟨⟨by omega, by omega⟩, i64_0, i64_0, by cases b <;> exact ⟨by simp, by simp⟩, by simp, by simp, by simp, by simp, trivial⟩
theorem ok_str {ids : List Int} {l : List Th} (h1 : ids.length ≤ 1000000) (h2 : l.length ≤ 1000000) (h3 : ∀ i ∈ ids, i64 i) (h4 : ∀ x ∈ l, x.ok) : (strT ids l).ok :=
  ⟨⟨by omega, by omega⟩, i64_0, i64_0, i64_0, by simp, by unfold big; omega, h3, by unfold big; omega, oks_of h4⟩
theorem ok_lst {k : Int} {l : List Th} (hk : i64 k) (h2 : l.length ≤ 1000000) (h4 : ∀ x ∈ l, x.ok) : (lstT k l).ok :=
  ⟨⟨by omega, by omega⟩, i64_0, hk, i64_0, by simp, by simp, by simp, by unfold big; omega, oks_of h4⟩
theorem i64_s {l : List Int} (h : (l.all fun i => decide (-9223372036854775808 ≤ i) && decide (i ≤ 9223372036854775807)) = true) : ∀ i ∈ l, i64 i := by
  intro i hi
  have := List.all_eq_true.1 h i hi
  simp at this
  exact this
theorem ok_stats {s : Sts} (h : s.ok = true) : (stsT s).ok := by
  simp [Sts.ok] at h
  obtain ⟨h1, ⟨h2, h3⟩, _⟩ := h
  cases hh : s.has with
  | true =>
    simp only [stsT, hh, if_true]
    refine ok_str (by simp) (by simp) (i64_s rfl) ?_
    intro x hx
    simp at hx
    rcases hx with rfl | rfl | rfl
    · exact ok_num ⟨by omega, by omega⟩ (i64_of31 (nat31_in h1))
    · exact ok_txt h3
    · exact ok_txt h2
  | false =>
    simp only [stsT, hh, Bool.false_eq_true, if_false]
    refine ok_str (by simp) (by simp) (i64_s rfl) ?_
    intro x hx
    simp at hx
    subst hx
    exact ok_num ⟨by omega, by omega⟩ (i64_of31 (nat31_in h1))
theorem ok5 {n : Int} (h : nat31 n = true) : (numT 5 n).ok := ok_num ⟨by omega, by omega⟩ (i64_of31 (nat31_in h))
theorem ok_page {h : Hdr} (ho : h.ok = true) : (pageT h).ok := by
  have hk := kind3 ho
  unfold Hdr.ok at ho
  simp only [Bool.and_eq_true] at ho
  obtain ⟨⟨hr, hp, hv, he⟩, hx⟩ := ho
  have he' := enc_nat he
  have hw : -2147483648 ≤ IntKind.i32.wrap h.sum ∧ IntKind.i32.wrap h.sum ≤ 2147483647 := by have := IntKind.wrap_i32 h.sum; omega
  have hin : (innerT h).ok := by
    unfold innerT
    rcases hk with k | k | k
    · rw [if_pos k]
      rw [if_pos k, Bool.and_eq_true] at hx
      refine ok_str (by simp) (by simp) (i64_s rfl) ?_
      intro x hx'
      simp at hx'
      rcases hx' with rfl | rfl | rfl | rfl
      · exact ok5 hv
      · exact ok5 he'
      · exact ok5 nat31_3
      · exact ok_stats hx.2
    · have k0 : ¬ h.kind = 0 := by omega
      rw [if_neg k0, if_pos k]
      refine ok_str (by simp) (by simp) (i64_s rfl) ?_
      intro x hx'
      simp at hx'
      rcases hx' with rfl | rfl
      · exact ok5 hv
      · exact ok5 he'
    · have k0 : ¬ h.kind = 0 := by omega
      have k2 : ¬ h.kind = 2 := by omega
      rw [if_neg k0, if_neg k2]
      rw [if_neg k0, if_neg k2, if_pos k] at hx
      simp only [Bool.and_eq_true] at hx
      refine ok_str (by simp) (by simp) (i64_s rfl) ?_
      intro x hx'
      simp at hx'
      rcases hx' with rfl | rfl | rfl | rfl | rfl | rfl | rfl | rfl
      · exact ok5 hv
      · exact ok5 hx.1.1
      · exact ok5 hx.1.2.1
      · exact ok5 he'
      · exact ok5 hx.1.2.2.1
      · exact ok5 hx.1.2.2.2
      · exact ok_bool _
      · exact ok_stats hx.2
  refine ok_str (by simp) (by simp) ?_ ?_
  · rcases hk with k | k | k
    · rw [if_pos k]; exact i64_s rfl
    · rw [if_neg (by omega), if_pos k]; exact i64_s rfl
    · rw [if_neg (by omega), if_neg (by omega)]; exact i64_s rfl
  · intro x hx'
    simp at hx'
    rcases hx' with rfl | rfl | rfl | rfl | rfl
    · exact ok_num ⟨by omega, by omega⟩ (by rcases hk with k | k | k <;> rw [k] <;> exact ⟨by omega, by omega⟩)
    · exact ok5 hr
    · exact ok5 hp
    · exact ok_num ⟨by omega, by omega⟩ (i64_of31 hw)
    · exact hin
theorem wt_num (k n : Int) : wt (numT k n) = 1 := by simp [numT, wt, wts]
theorem wt_txt (s : List UInt8) : wt (txtT s) = 1 + s.length := by simp [txtT, wt, wts]
theorem wt_bool (b : Bool) : wt (boolT b) = 1 := by simp [boolT, wt, wts]
theorem wt_stats (s : Sts) : wt (stsT s) ≤ 7 + s.least.length + s.most.length := by
  cases hh : s.has <;> simp [stsT, hh, wt, wts, wt_num, wt_txt] <;> omega
theorem wt_page (h : Hdr) : wt (pageT h) ≤ 60 + h.st.least.length + h.st.most.length := by
  have h1 := wt_stats h.st
  have h2 : wt (innerT h) ≤ 40 + h.st.least.length + h.st.most.length := by
    unfold innerT
    split
    · simp [wt, wts, wt_num]; omega
    · split
      · simp [wt, wts, wt_num]; omega
      · simp [wt, wts, wt_num, wt_bool]; omega
  simp only [pageT, wt, wts, wt_num]
  simp
  omega
end Go.Proofs.Th
open Go Go.Ag
namespace Go.Proofs.Th
attribute [local simp] ec_skip ec_region ec_seq ec_cond ec_block ec_loop ec_exit ec_ret seqK_normal seqK_exit seqK_ret seqK_pan condK_true condK_false blockK_exit blockK_normal blockK_ret blockK_pan regionK_plain regionK_draw eo_nil eo_cons cutS_nil cutOf opK_is wantK_yes wantK_no stepK_ret stepK_pan endK_normal endK_ret endK_pan annotate headS wantedA evOp evOp1 evA Ag.get putT dstOK argsEnv retK resR resAll resOne constAV constCell Ctx.bss evLoad evStore AV.cells intOfAV AV.val AV.vals splice okCell okCells_nil okCells_cons finish AV.lt AV.lts AV.ltss putObj partOf restrT ltT ownOK bsOK bsOKs List.lookup_cons pr_bind pr_pure pr_guard_int pr_guard_str pr_guard_bool pr_add pr_sub pr_mul pr_eql pr_neq pr_lss pr_leq pr_gtr pr_geq pr_seql pr_sneq pr_not pr_neg pr_shl pr_shr pr_quo pr_rem pr_and pr_or pr_xor pr_conv pr_min2 pr_max2 undef callP plA plS plR plO nameP ARes.keys putObj callW callAt callKs inS outS backK reachW pickM renObjs AObj.ren AV.ren AV.rens renss renE posOf backM outK lokAt ARes.ren AV.keys AV.keyss objKeys evFieldAddr evIndexAddr evLen evFill List.range_succ Value.oneCell' evInsert mfind sameKey isKey AObj.lt Value.cells
attribute [local simp] cells_len cells_ok cells_lt trows_lt irows_lt sp1_lt sp7_lt irows_len trows_len cells_0 cells_1 cells_2 cells_3 cells_4 cells_5 cells_6 cellg_0 cellg_1 cellg_2 cellg_3 cellg_4 cellg_5 cellg_6 cells_take cells_keys cells_rens pr_lenstr bstr_size
attribute [local simp] look_mp look_mp2 look_imp look_imp2 lookV lookB intKeys cond_vint cond_vbool bits_i64 bits_u64 bits_u8 bits_i8 bits_i32 bits_u32
attribute [local simp] wrap64_in wrapu64_in wrapu8_in
attribute [local simp] fz_int fz_str fz_bool fz_float fz_nilp fz_tuple fz_nili fz_nilf fz_nilm fz_any fz_nil fz_emp fz_ptr fz_rp fz_ip fz_imp fz_agg fz_tup fz_ifc fz_fn fz_sl fzRow_row fz_so fzMap_mp fz_mp appR_row appN appX_nil appX_emp appX_so appS_some appT_some app_is bsD_some bsB_some bsA_some bs1_is bsZ0_some bsA0_some bs0_is src_sl srcR_row src_so src_str src_nil src_emp rowsOK_nil rowsOK_cons rowsOK_app
attribute [local simp] irows_frz trows_frz sp1_frz sp7_frz cells_frz irows_ok trows_ok sp1_ok sp7_ok bRows_map_frz bRows_ok bRows_lt bRows_length strRows_bstr
attribute [local simp] trows_ta trows_da irows_ta irows_da bRows_ta bRows_da
attribute [local simp] mask_F maskF merge_F mergeF d_fast evFast_is f_nil f_cons fWantK_no fWantK_yes fFp_w fFp_r fClW_t fClR_t fOpW_r fOpR_r fValW_t fValR_t fastX_some clashFree isPureFP fpOf FP.has FP.meets restr Oper.looksAt isAlloc Op.operands Call.operands List.filter_cons rank Nat.testBit reach
section
set_option maxHeartbeats 4000000
attribute [local simp] pr_conv bstr_toList irows_fk irows_renss putOK
theorem eq0 {x : Int} (h : ((0 : Int) == x) = true) : x = 0 := by have := eq_of_beq h; omega
set_option maxRecDepth 20000 in
set_option maxHeartbeats 16000000 in
theorem m31_f0 {h : Hdr} (hk : h.kind = 0) (hf : h.ok = false) : em 31 [.agg h.cells] [] = some (.pan (fl 2), []) := by
  obtain ⟨kind, raw, packed, sum, values, enc, nulls, rows, defb, repb, sq, st⟩ := h
  simp at hk
  subst hk
  refine ev_fnM Tryz.func31 rfl (Nat.le_of_ble_eq_true rfl) rfl ?_
  cases hr : nat31 raw with
  | false =>
    simp [regM, Tryz.f31, Hdr.cells, m70, s71, s72, m71_f, m75_t, m75_f, nat31_0, nat31_2, nat31_3, nilO, isNil, cutS, frzS, frzM, frzObj, pr_eql28, pr_guard28, i32_64, hr]
  | true =>
  cases hp : nat31 packed with
  | false =>
    simp [regM, Tryz.f31, Hdr.cells, m70, s71, s72, m71_f, m75_t, m75_f, nat31_0, nat31_2, nat31_3, nilO, isNil, cutS, frzS, frzM, frzObj, pr_eql28, pr_guard28, i32_64, hr, hp]
  | true =>
  cases hv : nat31 values with
  | false =>
    simp [regM, Tryz.f31, Hdr.cells, m70, s71, s72, m71_f, m75_t, m75_f, nat31_0, nat31_2, nat31_3, nilO, isNil, cutS, frzS, frzM, frzObj, pr_eql28, pr_guard28, i32_64, hr, hp, hv]
  | true =>
  cases he : encOK enc with
  | false =>
    have h73 := m73_f he
    simp [regM, Tryz.f31, Hdr.cells, m70, s71, s72, m71_f, m75_t, m75_f, nat31_0, nat31_2, nat31_3, nilO, isNil, cutS, frzS, frzM, frzObj, pr_eql28, pr_guard28, i32_64, hr, hp, hv, h73]
  | true =>
  have he' := enc_nat he
  have h73 := m73_t he
  cases hs : st.ok with
  | false =>
    have h74 := m74_f hs
    simp [Sts.cells] at h74
    simp [regM, Tryz.f31, Hdr.cells, m70, s71, s72, m71_f, m75_t, m75_f, nat31_0, nat31_2, nat31_3, nilO, isNil, cutS, frzS, frzM, frzObj, pr_eql28, pr_guard28, i32_64, hr, hp, hv, he', h73, h74]
  | true =>
  have h74 := m74_t hs
  simp [Sts.cells] at h74
  cases e1 : ((0 : Int) == nulls) with
  | false =>
    simp [regM, Tryz.f31, Hdr.cells, m70, s71, s72, m71_f, m75_t, m75_f, nat31_0, nat31_2, nat31_3, nilO, isNil, cutS, frzS, frzM, frzObj, pr_eql28, pr_guard28, i32_64, hr, hp, hv, he', h73, e1, h74]
  | true =>
  cases e2 : ((0 : Int) == rows) with
  | false =>
    simp [regM, Tryz.f31, Hdr.cells, m70, s71, s72, m71_f, m75_t, m75_f, nat31_0, nat31_2, nat31_3, nilO, isNil, cutS, frzS, frzM, frzObj, pr_eql28, pr_guard28, i32_64, hr, hp, hv, he', h73, e1, e2, h74]
  | true =>
  cases e3 : ((0 : Int) == defb) with
  | false =>
    simp [regM, Tryz.f31, Hdr.cells, m70, s71, s72, m71_f, m75_t, m75_f, nat31_0, nat31_2, nat31_3, nilO, isNil, cutS, frzS, frzM, frzObj, pr_eql28, pr_guard28, i32_64, hr, hp, hv, he', h73, e1, e2, e3, h74]
  | true =>
  cases e4 : ((0 : Int) == repb) with
  | false =>
    simp [regM, Tryz.f31, Hdr.cells, m70, s71, s72, m71_f, m75_t, m75_f, nat31_0, nat31_2, nat31_3, nilO, isNil, cutS, frzS, frzM, frzObj, pr_eql28, pr_guard28, i32_64, hr, hp, hv, he', h73, e1, e2, e3, e4, h74]
  | true =>
  cases sq with
  | true =>
    simp [regM, Tryz.f31, Hdr.cells, m70, s71, s72, m71_f, m75_t, m75_f, nat31_0, nat31_2, nat31_3, nilO, isNil, cutS, frzS, frzM, frzObj, pr_eql28, pr_guard28, i32_64, hr, hp, hv, he', h73, e1, e2, e3, e4, h74]
  | false =>
  have := eq0 e1
  have := eq0 e2
  have := eq0 e3
  have := eq0 e4
  subst_vars
  simp [Hdr.ok, Hdr.bare, hr, hp, hv, he, hs] at hf
set_option maxRecDepth 20000 in
set_option maxHeartbeats 16000000 in
theorem m31_f2 {h : Hdr} (hk : h.kind = 2) (hf : h.ok = false) : em 31 [.agg h.cells] [] = some (.pan (fl 2), []) := by
  obtain ⟨kind, raw, packed, sum, values, enc, nulls, rows, defb, repb, sq, ⟨n, a, l, m⟩⟩ := h
  simp at hk
  subst hk
  refine ev_fnM Tryz.func31 rfl (Nat.le_of_ble_eq_true rfl) rfl ?_
  cases hr : nat31 raw with
  | false =>
    simp [regM, Tryz.f31, Hdr.cells, m70, s71, s72, m71_f, m75_t, m75_f, nat31_0, nat31_2, nat31_3, nilO, isNil, cutS, frzS, frzM, frzObj, pr_eql28, pr_guard28, i32_64, hr]
  | true =>
  cases hp : nat31 packed with
  | false =>
    simp [regM, Tryz.f31, Hdr.cells, m70, s71, s72, m71_f, m75_t, m75_f, nat31_0, nat31_2, nat31_3, nilO, isNil, cutS, frzS, frzM, frzObj, pr_eql28, pr_guard28, i32_64, hr, hp]
  | true =>
  cases hv : nat31 values with
  | false =>
    simp [regM, Tryz.f31, Hdr.cells, m70, s71, s72, m71_f, m75_t, m75_f, nat31_0, nat31_2, nat31_3, nilO, isNil, cutS, frzS, frzM, frzObj, pr_eql28, pr_guard28, i32_64, hr, hp, hv]
  | true =>
  cases he : encOK enc with
  | false =>
    have h73 := m73_f he
    simp [regM, Tryz.f31, Hdr.cells, m70, s71, s72, m71_f, m75_t, m75_f, nat31_0, nat31_2, nat31_3, nilO, isNil, cutS, frzS, frzM, frzObj, pr_eql28, pr_guard28, i32_64, hr, hp, hv, h73]
  | true =>
  have he' := enc_nat he
  have h73 := m73_t he
  cases e1 : ((0 : Int) == nulls) with
  | false =>
    simp [regM, Tryz.f31, Hdr.cells, m70, s71, s72, m71_f, m75_t, m75_f, nat31_0, nat31_2, nat31_3, nilO, isNil, cutS, frzS, frzM, frzObj, pr_eql28, pr_guard28, i32_64, hr, hp, hv, he', h73, e1, hr]
  | true =>
  cases e2 : ((0 : Int) == rows) with
  | false =>
    simp [regM, Tryz.f31, Hdr.cells, m70, s71, s72, m71_f, m75_t, m75_f, nat31_0, nat31_2, nat31_3, nilO, isNil, cutS, frzS, frzM, frzObj, pr_eql28, pr_guard28, i32_64, hr, hp, hv, he', h73, e1, e2, hr]
  | true =>
  cases e3 : ((0 : Int) == defb) with
  | false =>
    simp [regM, Tryz.f31, Hdr.cells, m70, s71, s72, m71_f, m75_t, m75_f, nat31_0, nat31_2, nat31_3, nilO, isNil, cutS, frzS, frzM, frzObj, pr_eql28, pr_guard28, i32_64, hr, hp, hv, he', h73, e1, e2, e3, hr]
  | true =>
  cases e4 : ((0 : Int) == repb) with
  | false =>
    simp [regM, Tryz.f31, Hdr.cells, m70, s71, s72, m71_f, m75_t, m75_f, nat31_0, nat31_2, nat31_3, nilO, isNil, cutS, frzS, frzM, frzObj, pr_eql28, pr_guard28, i32_64, hr, hp, hv, he', h73, e1, e2, e3, e4, hr]
  | true =>
  cases sq with
  | true =>
    simp [regM, Tryz.f31, Hdr.cells, m70, s71, s72, m71_f, m75_t, m75_f, nat31_0, nat31_2, nat31_3, nilO, isNil, cutS, frzS, frzM, frzObj, pr_eql28, pr_guard28, i32_64, hr, hp, hv, he', h73, e1, e2, e3, e4, hr]
  | false =>
  cases e5 : ((0 : Int) == n) with
  | false =>
    simp [regM, Tryz.f31, Hdr.cells, m70, s71, s72, m71_f, m75_t, m75_f, nat31_0, nat31_2, nat31_3, nilO, isNil, cutS, frzS, frzM, frzObj, pr_eql28, pr_guard28, i32_64, hr, hp, hv, he', h73, e1, e2, e3, e4, e5]
  | true =>
  cases a with
  | true =>
    simp [regM, Tryz.f31, Hdr.cells, m70, s71, s72, m71_f, m75_t, m75_f, nat31_0, nat31_2, nat31_3, nilO, isNil, cutS, frzS, frzM, frzObj, pr_eql28, pr_guard28, i32_64, hr, hp, hv, he', h73, e1, e2, e3, e4, e5]
  | false =>
  have el : ∀ x : List UInt8, (ByteArray.empty == bstr x) = (([] : List UInt8) == x) := fun x => bstr_beq [] x
  cases e6 : (([] : List UInt8) == l) with
  | false =>
    simp [regM, Tryz.f31, Hdr.cells, m70, s71, s72, m71_f, m75_t, m75_f, nat31_0, nat31_2, nat31_3, nilO, isNil, cutS, frzS, frzM, frzObj, pr_eql28, pr_guard28, i32_64, hr, hp, hv, he', h73, e1, e2, e3, e4, e5, el, e6]
  | true =>
  cases e7 : (([] : List UInt8) == m) with
  | false =>
    simp [regM, Tryz.f31, Hdr.cells, m70, s71, s72, m71_f, m75_t, m75_f, nat31_0, nat31_2, nat31_3, nilO, isNil, cutS, frzS, frzM, frzObj, pr_eql28, pr_guard28, i32_64, hr, hp, hv, he', h73, e1, e2, e3, e4, e5, el, e6, e7]
  | true =>
  have := eq0 e1
  have := eq0 e2
  have := eq0 e3
  have := eq0 e4
  have := eq0 e5
  have := eq_of_beq e6
  have := eq_of_beq e7
  subst_vars
  simp [Hdr.ok, Hdr.bare, Sts.zero, hr, hp, hv, he] at hf
set_option maxRecDepth 20000 in
set_option maxHeartbeats 16000000 in
theorem m31_f3 {h : Hdr} (hk : h.kind = 3) (hf : h.ok = false) : em 31 [.agg h.cells] [] = some (.pan (fl 2), []) := by
  obtain ⟨kind, raw, packed, sum, values, enc, nulls, rows, defb, repb, sq, st⟩ := h
  simp at hk
  subst hk
  refine ev_fnM Tryz.func31 rfl (Nat.le_of_ble_eq_true rfl) rfl ?_
  cases hr : nat31 raw with
  | false =>
    simp [regM, Tryz.f31, Hdr.cells, m70, s71, s72, m71_f, m75_t, m75_f, nat31_0, nat31_2, nat31_3, nilO, isNil, cutS, frzS, frzM, frzObj, pr_eql28, pr_guard28, i32_64, hr]
  | true =>
  cases hp : nat31 packed with
  | false =>
    simp [regM, Tryz.f31, Hdr.cells, m70, s71, s72, m71_f, m75_t, m75_f, nat31_0, nat31_2, nat31_3, nilO, isNil, cutS, frzS, frzM, frzObj, pr_eql28, pr_guard28, i32_64, hr, hp]
  | true =>
  cases hv : nat31 values with
  | false =>
    simp [regM, Tryz.f31, Hdr.cells, m70, s71, s72, m71_f, m75_t, m75_f, nat31_0, nat31_2, nat31_3, nilO, isNil, cutS, frzS, frzM, frzObj, pr_eql28, pr_guard28, i32_64, hr, hp, hv]
  | true =>
  cases h1 : nat31 nulls with
  | false =>
    simp [regM, Tryz.f31, Hdr.cells, m70, s71, s72, m71_f, m75_t, m75_f, nat31_0, nat31_2, nat31_3, nilO, isNil, cutS, frzS, frzM, frzObj, pr_eql28, pr_guard28, i32_64, hr, hp, hv, h1]
  | true =>
  cases h2 : nat31 rows with
  | false =>
    simp [regM, Tryz.f31, Hdr.cells, m70, s71, s72, m71_f, m75_t, m75_f, nat31_0, nat31_2, nat31_3, nilO, isNil, cutS, frzS, frzM, frzObj, pr_eql28, pr_guard28, i32_64, hr, hp, hv, h1, h2]
  | true =>
  cases he : encOK enc with
  | false =>
    have h73 := m73_f he
    simp [regM, Tryz.f31, Hdr.cells, m70, s71, s72, m71_f, m75_t, m75_f, nat31_0, nat31_2, nat31_3, nilO, isNil, cutS, frzS, frzM, frzObj, pr_eql28, pr_guard28, i32_64, hr, hp, hv, h1, h2, h73]
  | true =>
  have he' := enc_nat he
  have h73 := m73_t he
  cases h3 : nat31 defb with
  | false =>
    simp [regM, Tryz.f31, Hdr.cells, m70, s71, s72, m71_f, m75_t, m75_f, nat31_0, nat31_2, nat31_3, nilO, isNil, cutS, frzS, frzM, frzObj, pr_eql28, pr_guard28, i32_64, hr, hp, hv, h1, h2, he', h73, h3]
  | true =>
  cases h4 : nat31 repb with
  | false =>
    simp [regM, Tryz.f31, Hdr.cells, m70, s71, s72, m71_f, m75_t, m75_f, nat31_0, nat31_2, nat31_3, nilO, isNil, cutS, frzS, frzM, frzObj, pr_eql28, pr_guard28, i32_64, hr, hp, hv, h1, h2, he', h73, h3, h4]
  | true =>
  cases hs : st.ok with
  | false =>
    have h74 := m74_f hs
    simp [Sts.cells] at h74
    cases sq with
    | true =>
      simp [regM, Tryz.f31, Hdr.cells, m70, s71, s72, m71_f, m75_t, m75_f, nat31_0, nat31_2, nat31_3, nilO, isNil, cutS, frzS, frzM, frzObj, pr_eql28, pr_guard28, i32_64, hr, hp, hv, h1, h2, he', h73, h3, h4, h74]
    | false =>
      simp [regM, Tryz.f31, Hdr.cells, m70, s71, s72, m71_f, m75_t, m75_f, nat31_0, nat31_2, nat31_3, nilO, isNil, cutS, frzS, frzM, frzObj, pr_eql28, pr_guard28, i32_64, hr, hp, hv, h1, h2, he', h73, h3, h4, h74]
  | true => simp [Hdr.ok, hr, hp, hv, he, h1, h2, h3, h4, hs] at hf
set_option maxRecDepth 20000 in
set_option maxHeartbeats 16000000 in
theorem m31_fx {h : Hdr} (k0 : h.kind ≠ 0) (k2 : h.kind ≠ 2) (k3 : h.kind ≠ 3) : em 31 [.agg h.cells] [] = some (.pan (fl 2), []) := by
  obtain ⟨kind, raw, packed, sum, values, enc, nulls, rows, defb, repb, sq, st⟩ := h
  simp at k0 k2 k3
  have g0 : (kind == 0) = false := by simp [k0]
  have g2 : (kind == 2) = false := by simp [k2]
  have g3 : (kind == 3) = false := by simp [k3]
  refine ev_fnM Tryz.func31 rfl (Nat.le_of_ble_eq_true rfl) rfl ?_
  cases hk : nat31 kind with
  | false =>
    simp [regM, Tryz.f31, Hdr.cells, m70, s71, s72, m71_f, m75_t, m75_f, nat31_0, nat31_2, nat31_3, nilO, isNil, cutS, frzS, frzM, frzObj, pr_eql28, pr_guard28, i32_64, hk]
  | true =>
  cases hr : nat31 raw with
  | false =>
    simp [regM, Tryz.f31, Hdr.cells, m70, s71, s72, m71_f, m75_t, m75_f, nat31_0, nat31_2, nat31_3, nilO, isNil, cutS, frzS, frzM, frzObj, pr_eql28, pr_guard28, i32_64, hk, hr]
  | true =>
  cases hp : nat31 packed with
  | false =>
    simp [regM, Tryz.f31, Hdr.cells, m70, s71, s72, m71_f, m75_t, m75_f, nat31_0, nat31_2, nat31_3, nilO, isNil, cutS, frzS, frzM, frzObj, pr_eql28, pr_guard28, i32_64, hk, hr, hp]
  | true =>
  cases hv : nat31 values with
  | false =>
    simp [regM, Tryz.f31, Hdr.cells, m70, s71, s72, m71_f, m75_t, m75_f, nat31_0, nat31_2, nat31_3, nilO, isNil, cutS, frzS, frzM, frzObj, pr_eql28, pr_guard28, i32_64, hk, hr, hp, hv]
  | true =>
  simp [regM, Tryz.f31, Hdr.cells, m70, s71, s72, m71_f, m75_t, m75_f, nat31_0, nat31_2, nat31_3, nilO, isNil, cutS, frzS, frzM, frzObj, pr_eql28, pr_guard28, i32_64, hk, hr, hp, hv, g0, g2, g3]
theorem m31 (h : Hdr) : em 31 [.agg h.cells] [] = some (if h.ok = true then .ret (.agg ((pageT h).cells false)) else .pan (fl 2), []) := by
  by_cases ho : h.ok = true
  · rw [if_pos ho]
    have ho' := ho
    unfold Hdr.ok at ho
    simp only [Bool.and_eq_true] at ho
    obtain ⟨⟨hr, hp, hv, he⟩, hx⟩ := ho
    by_cases k0 : h.kind = 0
    · rw [if_pos k0, Bool.and_eq_true] at hx
      exact m31_0 k0 hr hp hv he hx.1 hx.2
    rw [if_neg k0] at hx
    by_cases k2 : h.kind = 2
    · rw [if_pos k2, Bool.and_eq_true] at hx
      exact m31_2 k2 hr hp hv he hx.1 hx.2
    rw [if_neg k2] at hx
    by_cases k3 : h.kind = 3
    · rw [if_pos k3] at hx
      simp only [Bool.and_eq_true] at hx
      exact m31_3 k3 hr hp hv he hx.1.1 hx.1.2.1 hx.1.2.2.1 hx.1.2.2.2 hx.2
    · rw [if_neg k3] at hx
      cases hx
  · rw [if_neg ho]
    have hf : h.ok = false := by simpa using ho
    by_cases k0 : h.kind = 0
    · exact m31_f0 k0 hf
    by_cases k2 : h.kind = 2
    · exact m31_f2 k2 hf
    by_cases k3 : h.kind = 3
    · exact m31_f3 k3 hf
    exact m31_fx k0 k2 k3
end
section
set_option maxHeartbeats 4000000
attribute [local simp] pr_conv bstr_toList
theorem fl_g (t : Tmp) (e : Int) : pureRun Tryz.prog (eqGuard .eql 20 (.tmp t) (.const .nilIface) (.iface 149 (.agg #[.int .i64 e])) .nilIface) = some () := _root_.id (by kernel_rfl)
theorem fl_e (e : Int) : pureRun Tryz.prog (binOp .eql 20 (.iface 149 (.agg #[.int .i64 e])) .nilIface) = some (.bool false) := _root_.id (by kernel_rfl)
theorem nl_g (t : Tmp) : pureRun Tryz.prog (eqGuard .eql 20 (.tmp t) (.const .nilIface) .nilIface .nilIface) = some () := _root_.id (by kernel_rfl)
theorem ev_fnMD {f : FuncId} {fn : Func} {code : Code} {args : List AV} {M : Mem} {r : ARes × Mem} (hf : Tryz.prog.funcs[f]? = some fn) (hb : fn.body = some code) (hoff : (!(onT f) && onM f) = true)
    (hr : evBodyD Tryz.prog annM lpW (callW Tryz.prog annM) [] 0 f fn code args M = some r) (hd : hasDefer code = true := by rfl) : em f args M = some r := by
  have e : annM f = { reg := regM f, fin := finM f } := by
    rw [Bool.and_eq_true, Bool.not_eq_true'] at hoff
    unfold annM; rw [hoff.1, hoff.2]; rfl
  exact ev_fnD hf hb hd hr (by rw [e])
theorem annM_29 : annM 29 = { reg := regM 29, fin := finM 29 } := _root_.id rfl
theorem annM_68 : annM 68 = { reg := regM 68, fin := finM 68 } := _root_.id rfl
theorem funAt_68 : funAt Tryz.prog annM 68 = some Tryz.f68 := (funAt_on rfl).trans Tryz.func68
section
variable {f : FuncId} {cs : List AV} (hlt : AV.lts 0 cs = true)
set_option maxRecDepth 20000 in
set_option maxHeartbeats 8000000 in
include hlt in
theorem m29_f (h : em f [.ptr 0 0] [.cells cs] = some (.pan (fl 2), [.cells cs])) : em 29 [.fn (.func f) [] [.ptr 0 0]] [.cells cs] = some (.ret (.tup [.sl [] [], .v (.int .i64 2)]), [.cells cs]) := by
  have h3' : ∀ n, AV.lts n cs = true := fun n => AV.lts_mono (Nat.zero_le n) _ hlt
  have hk : AV.keyss cs = [] := AV.keyss_of _ hlt
  have hrs : ∀ π, AV.rens π cs = some cs := fun π => AV.rens_of π _ hlt
  refine ev_fnMD Tryz.func29 rfl rfl ?_
  unfold evBodyD
  rw [if_pos (Nat.le_of_ble_eq_true rfl)]
  simp [evPre, Tryz.f29, isDefer, evRegionD, evRegion, regM, annM_29, annM_68, defOf, Ctx.above, h, hk, hrs, h3', runDefs, evDef, funAt_68, evRec, isRecover, evRegionR, recV, endDef, endD, settleD, resA, Tryz.f68, fl_g, fl_e, nl_g, fl, evAssert]
set_option maxRecDepth 20000 in
set_option maxHeartbeats 8000000 in
include hlt in
theorem m29_t {x : Th} (h : em f [.ptr 0 0] [.cells cs] = some (.ret (.agg (x.cells false)), [.cells cs])) (hx : x.ok) (hm : rmayM x 32 = true) (hk12 : x.kind = 12) (hl : (wr x).length ≤ 1000000000) :
    em 29 [.fn (.func f) [] [.ptr 0 0]] [.cells cs] = some (.ret (.tup [Bs (wr x), .v (.int .i64 0)]), [.cells cs]) := by
  have h3' : ∀ n, AV.lts n cs = true := fun n => AV.lts_mono (Nat.zero_le n) _ hlt
  have hk : AV.keyss cs = [] := AV.keyss_of _ hlt
  have hrs : ∀ π, AV.rens π cs = some cs := fun π => AV.rens_of π _ hlt
  have h12 := up (f12 false x hx hl)
  have hb := bef_29_3
  simp [Tryz.f29, opsOf] at hb
  have hw : writable x = true := by simp [writable, hm, hk12]
  rw [hw] at h12
  simp [Bs] at h12
  refine ev_fnMD Tryz.func29 rfl rfl ?_
  unfold evBodyD
  rw [if_pos (Nat.le_of_ble_eq_true rfl)]
  simp [evPre, Tryz.f29, isDefer, evRegionD, evRegion, regM, annM_29, annM_68, defOf, Ctx.above, h, h12, hb, hk, hrs, h3', runDefs, evDef, funAt_68, evRec, isRecover, evRegionR, recV, endDef, endD, settleD, resA, Tryz.f68, fl_g, fl_e, nl_g, nil_g, nil_e, fl, Bs, evAssert]
end
theorem Hdr.cells_lt (h : Hdr) (n : Nat) : AV.lts n h.cells = true := by simp [Hdr.cells, AV.lts, AV.lt]
theorem Hdr.cells_len (h : Hdr) : h.cells.length = 15 := rfl
theorem Hdr.cells_ok (h : Hdr) : okCells h.cells = true := by simp [Hdr.cells, okCells, okCell, Value.oneCell']
theorem m30 (h : Hdr) : em 30 [.ptr 0 0] [.cells h.cells] = some (if h.ok = true then .ret (.agg ((pageT h).cells false)) else .pan (fl 2), [.cells h.cells]) := by
  have h31 := m31 h
  have e1 : h.cells.take 15 = h.cells := rfl
  have hk : AV.keyss h.cells = [] := AV.keyss_of _ (h.cells_lt 0)
  have hrs : ∀ π, AV.rens π h.cells = some h.cells := fun π => AV.rens_of π _ (h.cells_lt 0)
  by_cases ho : h.ok = true
  · rw [if_pos ho] at h31
    refine ev_fnM Tryz.func30 rfl (Nat.le_of_ble_eq_true rfl) rfl ?_
    simp [regM, Tryz.f30, h31, ho, Hdr.cells_len, Hdr.cells_lt, Hdr.cells_ok, e1, hk, hrs]
  · rw [if_neg ho] at h31
    refine ev_fnM Tryz.func30 rfl (Nat.le_of_ble_eq_true rfl) rfl ?_
    simp [regM, Tryz.f30, h31, ho, Hdr.cells_len, Hdr.cells_lt, Hdr.cells_ok, e1, hk, hrs]
theorem m11_t {h : Hdr} (ho : h.ok = true) (hx : (pageT h).ok) (hm : rmayM (pageT h) 32 = true) (hl : (wr (pageT h)).length ≤ 1000000000) : em 11 [.agg h.cells] [] = some (.ret (.tup [Bs (wr (pageT h)), .v (.int .i64 0)]), []) := by
  have h30 := m30 h
  rw [if_pos ho] at h30
  have h29 := m29_t (h.cells_lt 0) h30 hx hm rfl hl
  have hk : AV.keyss h.cells = [] := AV.keyss_of _ (h.cells_lt 0)
  have hrs : ∀ π, AV.rens π h.cells = some h.cells := fun π => AV.rens_of π _ (h.cells_lt 0)
  simp [Bs] at h29
  refine ev_fnM Tryz.func11 rfl (Nat.le_of_ble_eq_true rfl) rfl ?_
  simp [regM, Tryz.f11, h29, Bs, Hdr.cells_len, Hdr.cells_lt, Hdr.cells_ok, hk, hrs]
theorem m11_f {h : Hdr} (ho : h.ok = false) : em 11 [.agg h.cells] [] = some (.ret (.tup [.sl [] [], .v (.int .i64 2)]), []) := by
  have h30 := m30 h
  rw [if_neg (by rw [ho]; simp)] at h30
  have h29 := m29_f (h.cells_lt 0) h30
  have hk : AV.keyss h.cells = [] := AV.keyss_of _ (h.cells_lt 0)
  have hrs : ∀ π, AV.rens π h.cells = some h.cells := fun π => AV.rens_of π _ (h.cells_lt 0)
  refine ev_fnM Tryz.func11 rfl (Nat.le_of_ble_eq_true rfl) rfl ?_
  simp [regM, Tryz.f11, h29, Hdr.cells_len, Hdr.cells_lt, Hdr.cells_ok, hk, hrs]
end
end Go.Proofs.Th
/- META: the second layer of what the runs are told. -/
open Go Go.Ag
namespace Go.Proofs.Th
def regN (f : FuncId) (r : Nat) : Option Ann := match f, r with
  | 12, 4 => some { cut := [(15, 1, 4)] }
  | 81, 2 => some { cut := [(2, 100, 5)] }
  | 42, 3 => some { cut := [(10, 100, 5)] }
  | 34, 1 => some { cut := [(3, 1, 4)] }
  | 84, 3 => some { nilsO := [(1, 6, 7)] }
  | 84, 4 => some { live := some [2, 6, 7, 16, 17, 18], keep := some 3 }
  | 87, 3 => some { nilsO := [(1, 6, 7)] }
  | 87, 4 => some { live := some [2, 6, 7, 16, 17, 18], keep := some 3 }
  | 114, 3 => some { nilsO := [(1, 6, 7)] }
  | 114, 4 => some { live := some [2, 6, 7, 16, 17, 18], keep := some 3 }
  | 143, 3 => some { nilsO := [(1, 6, 7)] }
  | 143, 4 => some { live := some [2, 6, 7, 16, 17, 18], keep := some 3 }
  | 145, 3 => some { nilsO := [(1, 6, 7)] }
  | 145, 4 => some { live := some [2, 6, 7, 16, 17, 18], keep := some 3 }
  | 47, 2 => some { nilsO := [(2, 5, 1), (2, 6, 7)] }
  | 85, 2 => some { nilsO := [(2, 5, 1), (2, 6, 7)] }
  | 88, 2 => some { nilsO := [(2, 5, 1), (2, 6, 7)] }
  | 115, 2 => some { nilsO := [(3, 5, 1), (3, 6, 7), (2, 5, 1), (2, 6, 7)] }
  | 115, 17 => some { cut := [(5, 6, 5)] }
  | 97, 1 => some { cut := [(3, 100, 5)] }
  | 97, 3 => some { cut := [(2, 100, 5)] }
  | 92, 2 => some { nils := [(7, 5)], cut := [(3, 100, 5)] }
  | 92, 3 => some { live := some [2, 7, 13, 14, 15], keep := some 1 }
  | 94, 2 => some { nils := [(7, 3)], cut := [(3, 100, 5)] }
  | 94, 3 => some { live := some [2, 7, 13, 14, 15], keep := some 1 }
  | 96, 2 => some { nils := [(7, 13)], cut := [(3, 100, 5)] }
  | 96, 3 => some { live := some [2, 7, 13, 14, 15], keep := some 1 }
  | 116, 2 => some { nils := [(7, 1)], cut := [(3, 100, 5)] }
  | 116, 3 => some { live := some [2, 7, 13, 14, 15], keep := some 1 }
  | 118, 2 => some { nils := [(7, 1)], cut := [(3, 100, 5)] }
  | 118, 3 => some { live := some [2, 7, 13, 14, 15], keep := some 1 }
  | 26, 4 => some { live := some [2, 3, 5], keep := some 2 }
  | 26, 9 => some { live := some [2, 3, 6], keep := some 2 }
  | 26, 15 => some { live := some [2, 3, 6, 7, 8, 9], keep := some 4 }
  | 60, 4 => some { live := some [2, 3, 5], keep := some 2 }
  | 60, 9 => some { live := some [2, 3, 6], keep := some 2 }
  | 62, 4 => some { live := some [0, 1, 12, 13], keep := some 0 }
  | 63, 4 => some { live := some [0, 1, 12, 13], keep := some 0 }
  | 66, 4 => some { live := some [0, 1, 12, 13], keep := some 0 }
  | 65, 4 => some { live := some [0, 1, 2, 15, 16, 17], keep := some 0 }
  | 67, 4 => some { live := some [0, 1, 2, 15, 16, 17], keep := some 0 }
  | _, _ => none
def finN (f : FuncId) : Option Nat := match f with
  | _ => some 4
attribute [simp] finN
def offN (f : FuncId) : Bool := ([4, 5, 6, 7, 8, 17, 18, 19, 21, 22, 23, 25, 27, 44, 48, 49, 50, 52, 53, 57, 58, 59, 83, 90, 98] : List Nat).contains f
def annN : FuncId → AnnF := fun f => if onT f || onM f then annM f else { reg := regN f, fin := finN f, off := offN f }
noncomputable abbrev en := evW Tryz.prog annN
theorem upN {f : FuncId} {args : List AV} {M : Mem} {r : ARes × Mem} (h : em f args M = some r) : en f args M = some r := by
  refine evW_layer (fun f hf => ?_) h
  have h' : (onT f || onM f) = true := by
    unfold annM at hf
    cases ht : onT f with
    | true => rfl
    | false =>
      rw [ht] at hf
      simp at hf
      simp [hf]
  unfold annN
  rw [if_pos h']
theorem annN_at {f : FuncId} (hoff : (onT f || (onM f || offN f)) = false) : annN f = { reg := regN f, fin := finN f } := by
  rw [Bool.or_eq_false_iff, Bool.or_eq_false_iff] at hoff
  unfold annN
  rw [hoff.1, hoff.2.1, hoff.2.2]; rfl
theorem ev_fnN {f : FuncId} {fn : Func} {code : Code} {args : List AV} {M : Mem} {r : ARes × Mem} (hf : Tryz.prog.funcs[f]? = some fn) (hb : fn.body = some code) (h : args.length ≤ fn.ntmps) (hoff : (onT f || (onM f || offN f)) = false)
    (hr : endK Tryz.prog fn.results.toList (finN f) M.length (evCode ⟨Tryz.prog, callW Tryz.prog annN, fn.ntmps, M.length, [], 0, regN f⟩ lpW code ⟨argsEnv 0 args, M⟩) = some r) (hd : hasDefer code = false := by rfl) : en f args M = some r :=
  ev_fn hf hb hd h (by rw [annN_at hoff]; exact hr) (by rw [annN_at hoff])
theorem ev_fnND {f : FuncId} {fn : Func} {code : Code} {args : List AV} {M : Mem} {r : ARes × Mem} (hf : Tryz.prog.funcs[f]? = some fn) (hb : fn.body = some code) (hoff : (onT f || (onM f || offN f)) = false)
    (hr : evBodyD Tryz.prog annN lpW (callW Tryz.prog annN) [] 0 f fn code args M = some r) (hd : hasDefer code = true := by rfl) : en f args M = some r :=
  ev_fnD hf hb hd hr (by rw [annN_at hoff])
end Go.Proofs.Th
open Go Go.Ag
namespace Go.Proofs.Th
attribute [local simp] ec_skip ec_region ec_seq ec_cond ec_block ec_loop ec_exit ec_ret seqK_normal seqK_exit seqK_ret seqK_pan condK_true condK_false blockK_exit blockK_normal blockK_ret blockK_pan regionK_plain regionK_draw eo_nil eo_cons cutS_nil cutOf opK_is wantK_yes wantK_no stepK_ret stepK_pan endK_normal endK_ret endK_pan annotate headS wantedA evOp evOp1 evA Ag.get putT dstOK argsEnv retK resR resAll resOne constAV constCell Ctx.bss evLoad evStore AV.cells intOfAV AV.val AV.vals splice okCell okCells_nil okCells_cons finish AV.lt AV.lts AV.ltss putObj partOf restrT ltT ownOK bsOK bsOKs List.lookup_cons pr_bind pr_pure pr_guard_int pr_guard_str pr_guard_bool pr_add pr_sub pr_mul pr_eql pr_neq pr_lss pr_leq pr_gtr pr_geq pr_seql pr_sneq pr_not pr_neg pr_shl pr_shr pr_quo pr_rem pr_and pr_or pr_xor pr_conv pr_min2 pr_max2 undef callP plA plS plR plO nameP ARes.keys putObj callW callAt callKs inS outS backK reachW pickM renObjs AObj.ren AV.ren AV.rens renss renE posOf backM outK lokAt ARes.ren AV.keys AV.keyss objKeys evFieldAddr evIndexAddr evLen evFill List.range_succ Value.oneCell' evInsert mfind sameKey isKey AObj.lt Value.cells
attribute [local simp] cells_len cells_ok cells_lt trows_lt irows_lt sp1_lt sp7_lt irows_len trows_len cells_0 cells_1 cells_2 cells_3 cells_4 cells_5 cells_6 cellg_0 cellg_1 cellg_2 cellg_3 cellg_4 cellg_5 cellg_6 cells_take cells_keys cells_rens pr_lenstr bstr_size
attribute [local simp] look_mp look_mp2 look_imp look_imp2 lookV lookB intKeys cond_vint cond_vbool bits_i64 bits_u64 bits_u8 bits_i8 bits_i32 bits_u32
attribute [local simp] wrap64_in wrapu64_in wrapu8_in
attribute [local simp] fz_int fz_str fz_bool fz_float fz_nilp fz_tuple fz_nili fz_nilf fz_nilm fz_any fz_nil fz_emp fz_ptr fz_rp fz_ip fz_imp fz_agg fz_tup fz_ifc fz_fn fz_sl fzRow_row fz_so fzMap_mp fz_mp appR_row appN appX_nil appX_emp appX_so appS_some appT_some app_is bsD_some bsB_some bsA_some bs1_is bsZ0_some bsA0_some bs0_is src_sl srcR_row src_so src_str src_nil src_emp rowsOK_nil rowsOK_cons rowsOK_app
attribute [local simp] irows_frz trows_frz sp1_frz sp7_frz cells_frz irows_ok trows_ok sp1_ok sp7_ok bRows_map_frz bRows_ok bRows_lt bRows_length strRows_bstr
attribute [local simp] trows_ta trows_da irows_ta irows_da bRows_ta bRows_da
attribute [local simp] mask_F maskF merge_F mergeF d_fast evFast_is f_nil f_cons fWantK_no fWantK_yes fFp_w fFp_r fClW_t fClR_t fOpW_r fOpR_r fValW_t fValR_t fastX_some clashFree isPureFP fpOf FP.has FP.meets restr Oper.looksAt isAlloc Op.operands Call.operands List.filter_cons rank Nat.testBit reach
section
set_option maxHeartbeats 4000000
attribute [local simp] pr_conv bstr_toList
theorem m13 (e : Int) : en 13 [.v (.int .i64 e)] [] = some (.ret (.v (.int .i64 e)), []) := by
  refine ev_fnN Tryz.func13 rfl (Nat.le_of_ble_eq_true rfl) rfl ?_
  simp [regN, Tryz.f13]
end
section
set_option maxHeartbeats 4000000
attribute [local simp] pr_conv bstr_toList
theorem lookup_mapv (f : AV → AV) (t : Tmp) : ∀ T : Env, (T.map fun x => (x.1, f x.2)).lookup t = (T.lookup t).map f
  | [] => rfl
  | (u, a) :: T => by
    simp only [List.map_cons, List.lookup_cons]
    split
    · rfl
    · exact lookup_mapv f t T
def Hdr.seven (h : Hdr) : List Int := [h.raw, h.packed, h.values, h.nulls, h.rows, h.defb, h.repb]
def Hdr.may (h : Hdr) : Bool := (h.kind == 0 || (h.kind == 2 || h.kind == 3)) && (h.seven.all nat31 && (encOK h.enc && (h.st.ok && ((h.kind == 3 || h.bare) && (h.kind != 2 || h.st.zero)))))
end
end Go.Proofs.Th
