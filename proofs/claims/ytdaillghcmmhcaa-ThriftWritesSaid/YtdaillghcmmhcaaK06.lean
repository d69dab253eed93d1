/- ABSTRACT RUNS, BY HAND: more small laws: numbers, strings, slices, calls. -/
import Derived.Test.YtdaillghcmmhcaaK05
import Derived.Laws.Strings
import Derived.Laws.BitsLemmas
import Derived.Laws.Bits64
import Derived.Test.YtdaillghcmmhcaaProg
import Derived.KernelRfl
set_option linter.unusedSimpArgs false
set_option linter.unusedVariables false
namespace Go.Ag
open Go.RowKit

/-! ### Numbers and strings -/
section
variable (P : Program) (t : TypeId)
theorem pr_shl {k j : IntKind} {a b : Int} (h : 0 ≤ b) : pureRun P (binOp .shl t (.int k a) (.int j b)) = some (.int k (k.wrap (a * 2 ^ min b.toNat k.bits))) := by
  have : ¬ b < 0 := by omega
  simp [binOp, Op.shift, this, pr_pure]
theorem pr_shr {k j : IntKind} {a b : Int} (h : 0 ≤ b) : pureRun P (binOp .shr t (.int k a) (.int j b)) = some (.int k (a.fdiv (2 ^ min b.toNat k.bits))) := by
  have : ¬ b < 0 := by omega
  simp [binOp, Op.shift, this, pr_pure]
theorem pr_quo {k : IntKind} {a b : Int} (h : b ≠ 0) : pureRun P (binOp .quo t (.int k a) (.int k b)) = some (.int k (k.wrap (a.tdiv b))) := by simp [binOp, Op.intDiv, h, pr_pure]
theorem pr_rem {k : IntKind} {a b : Int} (h : b ≠ 0) : pureRun P (binOp .rem t (.int k a) (.int k b)) = some (.int k (a.tmod b)) := by simp [binOp, Op.intDiv, h, pr_pure]
def bAnd (k : IntKind) (a b : Int) : Int := k.wrap ((BitVec.ofInt k.bits a &&& BitVec.ofInt k.bits b).toNat : Int)
def bOr (k : IntKind) (a b : Int) : Int := k.wrap ((BitVec.ofInt k.bits a ||| BitVec.ofInt k.bits b).toNat : Int)
def bXor (k : IntKind) (a b : Int) : Int := k.wrap ((BitVec.ofInt k.bits a ^^^ BitVec.ofInt k.bits b).toNat : Int)
theorem pr_and (k : IntKind) (a b : Int) : pureRun P (binOp .and t (.int k a) (.int k b)) = some (.int k (bAnd k a b)) := by simp [binOp, Op.intBits, bAnd, pr_pure]
theorem pr_or (k : IntKind) (a b : Int) : pureRun P (binOp .or t (.int k a) (.int k b)) = some (.int k (bOr k a b)) := by simp [binOp, Op.intBits, bOr, pr_pure]
theorem pr_xor (k : IntKind) (a b : Int) : pureRun P (binOp .xor t (.int k a) (.int k b)) = some (.int k (bXor k a b)) := by simp [binOp, Op.intBits, bXor, pr_pure]
theorem pr_neg (k : IntKind) (a : Int) : pureRun P (Op.unary .neg (.int k a)) = some (.int k (k.wrap (0 - a))) := by simp [Op.unary, Op.intArith, pr_pure]
theorem pr_conv {P : Program} {s d : TypeId} {ds : TypeDesc} {k : IntKind} (hs : P.underlying s = some ds) (hd : P.underlying d = some (.int k)) (j : IntKind) (n : Int) : pureRun P (convert s d (.int j n)) = some (.int k (k.wrap n)) := by
  unfold convert
  simp only [pr_bind, pr_under P s hs, pr_under P d hd, Option.bind_some]
  rfl
theorem pr_lenstr {P : Program} {tys : Array TypeId} {ty u : TypeId} (h : tys[0]? = some u) (hu : P.underlying u = some .string) (s : ByteArray) : pureRun P (Builtin.len_ tys ty #[.string s]) = some (.int .i64 s.size) := by
  unfold Builtin.len_
  simp only [h, List.getElem?_toArray, List.getElem?_cons_zero, pr_bind, pr_under P u hu, Option.bind_some]
  rfl
theorem pr_min2 (tys : Array TypeId) (ty : TypeId) (k j : IntKind) (a b : Int) : pureRun P (Builtin.min_ tys ty #[.int k a, .int j b]) = some (.int k (if b < a then b else a)) := by
  simp [Builtin.min_, Builtin.min2, pr_pure]
theorem pr_max2 (tys : Array TypeId) (ty : TypeId) (k j : IntKind) (a b : Int) : pureRun P (Builtin.max_ tys ty #[.int k a, .int j b]) = some (.int k (if b > a then b else a)) := by
  simp [Builtin.max_, Builtin.max2, pr_pure]
theorem pr_concat {a b : ByteArray} (h : a.size + b.size ≤ 9223372036854775807) : pureRun P (binOp .add t (.string a) (.string b)) = some (.string (a ++ b)) := by
  have : ¬ (9223372036854775807 < (a.size : Int) + (b.size : Int)) := by omega
  simp [binOp, Op.stringOp, IntKind.max, IntKind.signed, IntKind.bits, this, pr_pure]
end

/-- A string of these bytes. -/
def bstr (l : List UInt8) : ByteArray := ⟨l.toArray⟩
theorem bstr_toList (l : List UInt8) : (bstr l).toList = l := ByteArray.toList_mk l
theorem bstr_data (l : List UInt8) : (bstr l).data.toList = l := by simp [bstr]
theorem bstr_size (l : List UInt8) : (bstr l).size = l.length := by simp [bstr, ByteArray.size]
theorem bstr_of (s : ByteArray) : s = bstr s.data.toList := by cases s; simp [bstr]
theorem bstr_inj {l l' : List UInt8} (h : bstr l = bstr l') : l = l' := by
  have := congrArg ByteArray.toList h
  simpa [bstr_toList] using this
theorem bstr_append (l l' : List UInt8) : bstr l ++ bstr l' = bstr (l ++ l') := by
  apply ByteArray.ext
  simp [bstr]
theorem bstr_nil : ByteArray.empty = bstr [] := rfl

theorem bRows_length (l : List UInt8) : (bRows l).length = l.length := by simp [bRows]
theorem bRows_lt (l : List UInt8) (n : Nat) : AV.ltss n (bRows l) = true := by
  induction l with
  | nil => rfl
  | cons b l ih => simpa [bRows, AV.ltss, AV.lts, AV.lt] using ih
theorem bRows_get {l : List UInt8} {i : Nat} {b : UInt8} (h : l[i]? = some b) : (bRows l)[i]? = some [.v (.int .u8 b.toNat)] := by simp [bRows, h]
theorem bRows_ok (l : List UInt8) : rowsOK 1 (bRows l) = true := by
  simp [rowsOK, bRows, okCells, okCell, Value.oneCell']
theorem bRows_append (l l' : List UInt8) : bRows (l ++ l') = bRows l ++ bRows l' := by simp [bRows]
theorem bRows_cons (b : UInt8) (l : List UInt8) : bRows (b :: l) = [.v (.int .u8 b.toNat)] :: bRows l := by simp [bRows]
theorem bRows_nil : bRows [] = [] := rfl
theorem bRows_drop (l : List UInt8) (n : Nat) : (bRows l).drop n = bRows (l.drop n) := by simp [bRows]
theorem bRows_take (l : List UInt8) (n : Nat) : (bRows l).take n = bRows (l.take n) := by simp [bRows]
theorem strRows_bstr (l : List UInt8) : strRows (bstr l) = bRows l := by simp [strRows, bRows, bstr]

theorem bRows_map_frz (M : Mem) (b n : Nat) (l : List UInt8) : (bRows l).map (fun r => r.map (frz M b n)) = bRows l := by
  have h : ∀ x : Int, frz M b n (.v (.int .u8 x)) = .v (.int .u8 x) := by intro x; cases n <;> rfl
  simp [bRows, h, Function.comp_def]

/-! ### Values without keys -/
mutual
theorem AV.ren_of (π : Nat → Option Nat) : ∀ a : AV, a.lt 0 = true → a.ren π = some a
  | .any, _ => by unfold AV.ren; rfl
  | .v x, _ => by unfold AV.ren; rfl
  | .emp, _ => by unfold AV.ren; rfl
  | .sl rows spare, h => by unfold AV.ren; unfold AV.lt at h; rw [if_pos h]
  | .so k ver off len, h => by unfold AV.lt at h; simp at h
  | .ptr k off, h => by unfold AV.lt at h; simp at h
  | .rp k ver i f, h => by unfold AV.lt at h; simp at h
  | .ip cells, h => by unfold AV.ren; unfold AV.lt at h; rw [if_pos h]
  | .mp k, h => by unfold AV.lt at h; simp at h
  | .imp keys vals, h => by unfold AV.ren; unfold AV.lt at h; rw [if_pos h]
  | .fn f fi ca, h => by
    unfold AV.lt at h
    rw [Bool.and_eq_true] at h
    unfold AV.ren
    rw [AV.rens_of π fi h.1, AV.rens_of π ca h.2]
  | .ifc t x, h => by unfold AV.lt at h; unfold AV.ren; rw [AV.ren_of π x h]; rfl
  | .agg cs, h => by unfold AV.lt at h; unfold AV.ren; rw [AV.rens_of π cs h]; rfl
  | .tup cs, h => by unfold AV.lt at h; unfold AV.ren; rw [AV.rens_of π cs h]; rfl
theorem AV.rens_of (π : Nat → Option Nat) : ∀ a : List AV, AV.lts 0 a = true → AV.rens π a = some a
  | [], _ => by unfold AV.rens; rfl
  | a :: as', h => by
    unfold AV.lts at h
    rw [Bool.and_eq_true] at h
    unfold AV.rens
    rw [AV.ren_of π a h.1, AV.rens_of π as' h.2]
end
mutual
theorem AV.keys_of : ∀ a : AV, a.lt 0 = true → a.keys = []
  | .any, _ => by simp [AV.keys]
  | .v x, _ => by simp [AV.keys]
  | .emp, _ => by simp [AV.keys]
  | .sl rows spare, _ => by simp [AV.keys]
  | .so k ver off len, h => by unfold AV.lt at h; simp at h
  | .ptr k off, h => by unfold AV.lt at h; simp at h
  | .rp k ver i f, h => by unfold AV.lt at h; simp at h
  | .ip cells, _ => by simp [AV.keys]
  | .mp k, h => by unfold AV.lt at h; simp at h
  | .imp keys vals, _ => by simp [AV.keys]
  | .fn f fi ca, h => by
    unfold AV.lt at h
    rw [Bool.and_eq_true] at h
    unfold AV.keys
    rw [AV.keyss_of fi h.1, AV.keyss_of ca h.2]; rfl
  | .ifc t x, h => by unfold AV.lt at h; unfold AV.keys; exact AV.keys_of x h
  | .agg cs, h => by unfold AV.lt at h; unfold AV.keys; exact AV.keyss_of cs h
  | .tup cs, h => by unfold AV.lt at h; unfold AV.keys; exact AV.keyss_of cs h
theorem AV.keyss_of : ∀ a : List AV, AV.lts 0 a = true → AV.keyss a = []
  | [], _ => by simp [AV.keyss]
  | a :: as', h => by
    unfold AV.lts at h
    rw [Bool.and_eq_true] at h
    unfold AV.keyss
    rw [AV.keys_of a h.1, AV.keyss_of as' h.2]; rfl
end
theorem lts_up {n : Nat} {a : List AV} (h : AV.lts 0 a = true) : AV.lts n a = true := AV.lts_mono (Nat.zero_le n) a h
theorem ltss_up {n : Nat} {a : List (List AV)} (h : AV.ltss 0 a = true) : AV.ltss n a = true := AV.ltss_mono (Nat.zero_le n) a h
theorem ltss_get0 {rows : List (List AV)} (h : AV.ltss 0 rows = true) {i : Nat} {r : List AV} (hr : rows[i]? = some r) : AV.lts 0 r = true := ltss_get h hr

/-! ### Memory seen in part -/
def maskF (vis : Nat → Bool) : Nat → Mem → Mem
  | _, [] => []
  | i, o :: M => (if vis i then o else .hid) :: maskF vis (i + 1) M
def mergeF (vis : Nat → Bool) : Nat → Mem → Mem → Mem
  | _, [], _ => []
  | i, o :: M, o' :: M' => (if vis i then o' else o) :: mergeF vis (i + 1) M M'
  | i, o :: M, [] => o :: mergeF vis (i + 1) M []
theorem maskF_eq (vis : Nat → Bool) : ∀ (M : Mem) (i : Nat), maskF vis i M = M.mapIdx fun k o => if vis (i + k) then o else .hid
  | [], i => by simp [maskF]
  | o :: M, i => by
    rw [maskF, maskF_eq vis M (i + 1), List.mapIdx_cons]
    simp [Nat.add_assoc, Nat.add_comm 1]
theorem mask_F (vis : Nat → Bool) (M : Mem) : maskM vis M = maskF vis 0 M := by rw [maskF_eq]; simp [maskM]
theorem mergeF_eq (vis : Nat → Bool) : ∀ (M Mm : Mem) (i : Nat), mergeF vis i M Mm = M.mapIdx fun k o => if vis (i + k) then (Mm[k]?).getD o else o
  | [], Mm, i => by simp [mergeF]
  | o :: M, [], i => by
    rw [mergeF, mergeF_eq vis M [] (i + 1), List.mapIdx_cons]
    simp
  | o :: M, o' :: Mm, i => by
    rw [mergeF, mergeF_eq vis M Mm (i + 1), List.mapIdx_cons]
    simp [Nat.add_assoc, Nat.add_comm 1]
theorem merge_F (vis : Nat → Bool) (M Mm : Mem) : mergeM vis M Mm = mergeF vis 0 M Mm := by rw [mergeF_eq]; simp [mergeM]

/-! ### Slices built of one value -/
theorem splice_all {cs new : List AV} (h : new.length = cs.length) : splice cs new 0 = new := by simp [splice, h]
/-! ### Where a branch is not known -/
section
variable (c : Ctx)
theorem wantK_m (cut : List (Nat × Nat × Nat)) (ops : Array Oper) (i : Nat) (o : Oper) (rest : List Oper) (s : St) (b : Bool) : wantK c cut ops i o rest s true (some b) = match b with
    | true => stepK c cut ops i rest o.dst s.T (evOp c c.lo s.M s.M.length s.T o)
    | false => evOps c cut ops (i + 1) rest ⟨putT s.T o.dst (.v undef), s.M⟩ := by cases b <;> rfl
theorem wantK_nm (cut : List (Nat × Nat × Nat)) (ops : Array Oper) (i : Nat) (o : Oper) (rest : List Oper) (s : St) (b : Bool) : wantK c cut ops i o rest s true (some (!b)) = match b with
    | true => evOps c cut ops (i + 1) rest ⟨putT s.T o.dst (.v undef), s.M⟩
    | false => stepK c cut ops i rest o.dst s.T (evOp c c.lo s.M s.M.length s.T o) := by cases b <;> rfl
theorem condK_m (lp : LoopE) (t e : Code) (s : St) (b : Bool) : condK c lp t e s (.v (.bool b)) = match b with
    | true => evCode c lp t s
    | false => evCode c lp e s := by cases b <;> rfl
theorem condK_nm (lp : LoopE) (t e : Code) (s : St) (b : Bool) : condK c lp t e s (.v (.bool (!b))) = match b with
    | true => evCode c lp e s
    | false => evCode c lp t s := by cases b <;> rfl
theorem dWantK_m (ops : Array Oper) (bef : Array Nat) (len0 : Nat) (rest : List Oper) (i : Nat) (s : DSt) (o : Oper) (b : Bool) : dWantK c ops bef len0 rest i s o true false (some b) = match b with
    | true => dFw0 c ops bef len0 rest i s o (fpOf len0 s.M (len0 + rank ops i) (evA (restr ops o s.T)) o)
    | false => evDrawnGo c ops bef len0 rest (i + 1) { s with T := putT s.T o.dst (.v undef), recs := s.recs ++ [⟨.keys [], false, o.dst, .v undef, [], true⟩] } := by cases b <;> rfl
theorem dWantK_nm (ops : Array Oper) (bef : Array Nat) (len0 : Nat) (rest : List Oper) (i : Nat) (s : DSt) (o : Oper) (b : Bool) : dWantK c ops bef len0 rest i s o true false (some (!b)) = match b with
    | true => evDrawnGo c ops bef len0 rest (i + 1) { s with T := putT s.T o.dst (.v undef), recs := s.recs ++ [⟨.keys [], false, o.dst, .v undef, [], true⟩] }
    | false => dFw0 c ops bef len0 rest i s o (fpOf len0 s.M (len0 + rank ops i) (evA (restr ops o s.T)) o) := by cases b <;> rfl
end
theorem cond_ret (b p q : Bool) (M : Mem) : cond b (some (ARes.ret (.v (.bool p)), M)) (some (ARes.ret (.v (.bool q)), M)) = some (ARes.ret (.v (.bool (cond b p q))), M) := by cases b <;> rfl

/-! ### Maps that are known -/
def lookV (z : AV) (a : Int) : List (Value × AV) → AV
  | [] => z
  | (.int _ b, v) :: es => cond (a == b) v (lookV z a es)
  | _ :: _ => .any
def lookB (a : Int) : List (Value × AV) → Bool
  | [] => false
  | (.int _ b, _) :: es => (a == b) || lookB a es
  | _ :: _ => false
def intKeys (k : IntKind) : List (Value × AV) → Bool
  | [] => true
  | (.int j _, _) :: es => decide (j = k) && intKeys k es
  | _ :: _ => false
theorem mfind_ints {k : IntKind} {a : Int} : ∀ (es : List (Value × AV)) (i : Nat), intKeys k es = true → ∃ r, mfind (.int k a) i es = some r ∧ (match r with
    | some (_, v) => lookB a es = true ∧ ∀ z, lookV z a es = v
    | none => lookB a es = false ∧ ∀ z, lookV z a es = z)
  | [], i, _ => ⟨none, rfl, rfl, fun _ => rfl⟩
  | (key, v) :: es, i, h => by
    cases key with
    | int j b =>
      simp only [intKeys, Bool.and_eq_true, decide_eq_true_eq] at h
      obtain ⟨rfl, h⟩ := h
      obtain ⟨r, h1, h2⟩ := mfind_ints es (i + 1) h
      simp only [mfind, sameKey, if_true]
      cases hb : (a == b) with
      | true => exact ⟨some (i, v), rfl, by simp [lookB, hb], fun z => by simp [lookV, hb]⟩
      | false =>
        refine ⟨r, h1, ?_⟩
        cases r with
        | none => exact ⟨by simp [lookB, hb, h2.1], fun z => by simp [lookV, hb, h2.2]⟩
        | some p => exact ⟨by simp [lookB, hb, h2.1], fun z => by simp [lookV, hb, h2.2]⟩
    | _ => simp [intKeys] at h
theorem look_mp {P : Program} {M : Mem} {t e : TypeId} {k : IntKind} {a : Int} {m : Nat} {es : List (Value × AV)} {z : Value} (ht : mapTy P t = some (.int k, e)) (hz : zeroOf P e = some z) (hM : M[m]? = some (.mp es)) (hk : intKeys k es = true) :
    evLookup P M t (.mp m) (.v (.int k a)) false = some (lookV (constAV z) a es) := by
  obtain ⟨r, h1, h2⟩ := mfind_ints (a := a) es 0 hk
  unfold evLookup
  simp only [ht, AV.val, isKey, if_true, hM, h1]
  cases r with
  | none => simp [hz, h2.2]
  | some p => simp [h2.2]
theorem look_mp2 {P : Program} {M : Mem} {t e : TypeId} {k : IntKind} {a : Int} {m : Nat} {es : List (Value × AV)} {z : Value} (ht : mapTy P t = some (.int k, e)) (hz : zeroOf P e = some z) (hM : M[m]? = some (.mp es)) (hk : intKeys k es = true) :
    evLookup P M t (.mp m) (.v (.int k a)) true = some (.tup [lookV (constAV z) a es, .v (.bool (lookB a es))]) := by
  obtain ⟨r, h1, h2⟩ := mfind_ints (a := a) es 0 hk
  unfold evLookup
  simp only [ht, AV.val, isKey, if_true, hM, h1]
  cases r with
  | none => simp [hz, h2.1, h2.2]
  | some p => simp [h2.1, h2.2]
theorem look_imp2 {P : Program} {M : Mem} {t e : TypeId} {k : IntKind} {a : Int} {keys : List Value} {vals : List AV} {z : Value} (ht : mapTy P t = some (.int k, e)) (hz : zeroOf P e = some z) (hk : intKeys k (keys.zip vals) = true) :
    evLookup P M t (.imp keys vals) (.v (.int k a)) true = some (.tup [lookV (constAV z) a (keys.zip vals), .v (.bool (lookB a (keys.zip vals)))]) := by
  obtain ⟨r, h1, h2⟩ := mfind_ints (a := a) _ 0 hk
  unfold evLookup
  simp only [ht, AV.val, isKey, if_true, h1]
  cases r with
  | none => simp [hz, h2.1, h2.2]
  | some p => simp [h2.1, h2.2]
theorem look_imp {P : Program} {M : Mem} {t e : TypeId} {k : IntKind} {a : Int} {keys : List Value} {vals : List AV} {z : Value} (ht : mapTy P t = some (.int k, e)) (hz : zeroOf P e = some z) (hk : intKeys k (keys.zip vals) = true) :
    evLookup P M t (.imp keys vals) (.v (.int k a)) false = some (lookV (constAV z) a (keys.zip vals)) := by
  obtain ⟨r, h1, h2⟩ := mfind_ints (a := a) _ 0 hk
  unfold evLookup
  simp only [ht, AV.val, isKey, if_true, h1]
  cases r with
  | none => simp [hz, h2.2]
  | some p => simp [h2.2]
theorem cond_vint (b : Bool) (k : IntKind) (p q : Int) : cond b (AV.v (.int k p)) (AV.v (.int k q)) = .v (.int k (cond b p q)) := by cases b <;> rfl
theorem cond_vbool (b : Bool) (p q : Bool) : cond b (AV.v (.bool p)) (AV.v (.bool q)) = .v (.bool (cond b p q)) := by cases b <;> rfl

theorem bits_i64 : IntKind.i64.bits = 64 := rfl
theorem bits_u64 : IntKind.u64.bits = 64 := rfl
theorem bits_u8 : IntKind.u8.bits = 8 := rfl
theorem bits_i8 : IntKind.i8.bits = 8 := rfl
theorem bits_i32 : IntKind.i32.bits = 32 := rfl
theorem bits_u32 : IntKind.u32.bits = 32 := rfl
theorem wrapu64_in {x : Int} (h0 : 0 ≤ x) (h1 : x < 18446744073709551616) : IntKind.u64.wrap x = x := by rw [IntKind.wrap_u64]; omega
theorem wrapu8_in {x : Int} (h0 : 0 ≤ x) (h1 : x < 256) : IntKind.u8.wrap x = x := by rw [IntKind.wrap_u8]; omega

/-! ### Freezing -/
section
variable (M : Mem) (b n : Nat)
theorem fz_int (k : IntKind) (x : Int) : frz M b n (.v (.int k x)) = .v (.int k x) := by cases n <;> rfl
theorem fz_str (x : ByteArray) : frz M b n (.v (.string x)) = .v (.string x) := by cases n <;> rfl
theorem fz_bool (x : Bool) : frz M b n (.v (.bool x)) = .v (.bool x) := by cases n <;> rfl
theorem fz_float (k : FloatKind) (x : Nat) : frz M b n (.v (.float k x)) = .v (.float k x) := by cases n <;> rfl
theorem fz_nilp (a : Option Addr) : frz M b n (.v (.pointer a)) = .v (.pointer a) := by cases n <;> rfl
theorem fz_tuple (x : Array Value) : frz M b n (.v (.tuple x)) = .v (.tuple x) := by cases n <;> rfl
theorem fz_nili : frz M b n (.v .nilIface) = .v .nilIface := by cases n <;> rfl
theorem fz_nilf : frz M b n (.v .nilFunc) = .v .nilFunc := by cases n <;> rfl
theorem fz_nilm (a : Option Nat) : frz M b n (.v (.map a)) = .v (.map a) := by cases n <;> rfl
theorem fz_any : frz M b n .any = .any := by cases n <;> rfl
theorem fz_nil : frz M b (n + 1) (.v (.slice none 0 0)) = .sl [] [] := _root_.id rfl
theorem fz_emp : frz M b (n + 1) .emp = .sl [] [] := _root_.id rfl
theorem fz_ptr (k o : Nat) : frz M b n (.ptr k o) = .ptr k o := by cases n <;> rfl
theorem fz_rp (k v i f : Nat) : frz M b n (.rp k v i f) = .rp k v i f := by cases n <;> rfl
theorem fz_ip (cs : List AV) : frz M b n (.ip cs) = .ip cs := by cases n <;> rfl
theorem fz_imp (ks : List Value) (vs : List AV) : frz M b n (.imp ks vs) = .imp ks vs := by cases n <;> rfl
theorem fz_agg (cs : List AV) : frz M b (n + 1) (.agg cs) = .agg (cs.map (frz M b n)) := _root_.id rfl
theorem fz_tup (cs : List AV) : frz M b (n + 1) (.tup cs) = .tup (cs.map (frz M b n)) := _root_.id rfl
theorem fz_ifc (t : TypeId) (x : AV) : frz M b (n + 1) (.ifc t x) = .ifc t (frz M b n x) := _root_.id rfl
theorem fz_fn (f : Fn) (x y : List AV) : frz M b (n + 1) (.fn f x y) = .fn f (x.map (frz M b n)) (y.map (frz M b n)) := _root_.id rfl
theorem fz_sl (r s : List (List AV)) : frz M b (n + 1) (.sl r s) = .sl (r.map fun r => r.map (frz M b n)) (s.map fun r => r.map (frz M b n)) := _root_.id rfl
def fzRow (M : Mem) (b n k ver off len : Nat) : Option AObj → AV
  | some (.row ver' _ rows) => if ver' = ver ∧ off + len ≤ rows.length then .sl (((rows.drop off).take len).map fun r => r.map (frz M b n)) ((rows.drop (off + len)).map fun r => r.map (frz M b n)) else .so k ver off len
  | _ => .so k ver off len
theorem fzRow_row (k ver off len ver' esz : Nat) (rows : List (List AV)) : fzRow M b n k ver off len (some (.row ver' esz rows)) = if ver' = ver ∧ off + len ≤ rows.length then .sl (((rows.drop off).take len).map fun r => r.map (frz M b n)) ((rows.drop (off + len)).map fun r => r.map (frz M b n)) else .so k ver off len := _root_.id rfl
theorem fz_so (k ver off len : Nat) : frz M b (n + 1) (.so k ver off len) = if b ≤ k then fzRow M b n k ver off len M[k]? else .so k ver off len := by
  rw [frz]
  unfold fzRow
  rfl
def fzMap (M : Mem) (b n k : Nat) : Option AObj → AV
  | some (.mp es) => .imp (es.map (·.1)) (es.map fun e => frz M b n e.2)
  | _ => .mp k
theorem fzMap_mp (k : Nat) (es : List (Value × AV)) : fzMap M b n k (some (.mp es)) = .imp (es.map (·.1)) (es.map fun e => frz M b n e.2) := _root_.id rfl
theorem fz_mp (k : Nat) : frz M b (n + 1) (.mp k) = if b ≤ k then fzMap M b n k M[k]? else .mp k := by
  rw [frz]
  unfold fzMap
  rfl
end
/-! ### append, step by step -/
def appR (bs : List Nat) (lo : Nat) (M : Mem) (k ver off len n bts : Nat) (new : List (List AV)) : Option AObj → Option (AV × Mem)
  | some (.row ver' esz rows) => if ver' = ver ∧ esz = n ∧ off + len ≤ rows.length ∧ lo ≤ k ∧ rowsOK n rows = true ∧ (len + new.length) * bts ≤ 140737488355328 ∧ bsOKs bs k new = true
      then some (.so k (ver + 1) 0 (len + new.length), M.set k (.row (ver + 1) n ((rows.drop off).take len ++ new))) else none
  | _ => none
theorem appR_row (bs : List Nat) (lo : Nat) (M : Mem) (k ver off len n bts : Nat) (new : List (List AV)) (ver' esz : Nat) (rows : List (List AV)) : appR bs lo M k ver off len n bts new (some (.row ver' esz rows)) = if ver' = ver ∧ esz = n ∧ off + len ≤ rows.length ∧ lo ≤ k ∧ rowsOK n rows = true ∧ (len + new.length) * bts ≤ 140737488355328 ∧ bsOKs bs k new = true
      then some (.so k (ver + 1) 0 (len + new.length), M.set k (.row (ver + 1) n ((rows.drop off).take len ++ new))) else none := _root_.id rfl
def appN (lo : Nat) (M : Mem) (ak n bts : Nat) (new : List (List AV)) : Option (AV × Mem) :=
  if lo ≤ ak ∧ new.length * bts ≤ 140737488355328 then (putObj M ak (.row 0 n new)).map fun M' => (.so ak 0 0 new.length, M') else none
def appX (bs : List Nat) (lo : Nat) (M : Mem) (ak n bts : Nat) (new : List (List AV)) : AV → Option (AV × Mem)
  | .v (.slice none 0 0) => appN lo M ak n bts new
  | .emp => appN lo M ak n bts new
  | .so k ver off len => appR bs lo M k ver off len n bts new M[k]?
  | _ => none
theorem appX_nil (bs : List Nat) (lo : Nat) (M : Mem) (ak n bts : Nat) (new : List (List AV)) : appX bs lo M ak n bts new (.v (.slice none 0 0)) = appN lo M ak n bts new := _root_.id rfl
theorem appX_emp (bs : List Nat) (lo : Nat) (M : Mem) (ak n bts : Nat) (new : List (List AV)) : appX bs lo M ak n bts new .emp = appN lo M ak n bts new := _root_.id rfl
theorem appX_so (bs : List Nat) (lo : Nat) (M : Mem) (ak n bts : Nat) (new : List (List AV)) (k ver off len : Nat) : appX bs lo M ak n bts new (.so k ver off len) = appR bs lo M k ver off len n bts new M[k]? := _root_.id rfl
def appS (bs : List Nat) (lo : Nat) (M : Mem) (ak n bts : Nat) (x : AV) : Option (List (List AV)) → Option (AV × Mem)
  | some new => appX bs lo M ak n bts new x
  | none => none
theorem appS_some (bs : List Nat) (lo : Nat) (M : Mem) (ak n bts : Nat) (x : AV) (new : List (List AV)) : appS bs lo M ak n bts x (some new) = appX bs lo M ak n bts new x := _root_.id rfl
def appT (bs : List Nat) (lo : Nat) (M : Mem) (ak : Nat) (x y : AV) : Option (Nat × Nat) → Option (AV × Mem)
  | some (n, bts) => appS bs lo M ak n bts x (srcOf M n y)
  | none => none
theorem appT_some (bs : List Nat) (lo : Nat) (M : Mem) (ak : Nat) (x y : AV) (n bts : Nat) : appT bs lo M ak x y (some (n, bts)) = appS bs lo M ak n bts x (srcOf M n y) := _root_.id rfl
theorem app_is (P : Program) (bs : List Nat) (lo : Nat) (M : Mem) (ak : Nat) (t t2 : TypeId) (x y : AV) : evAppend P bs lo M ak t t2 x y = appT bs lo M ak x y (appTy P t t2) := by
  unfold evAppend appT
  cases appTy P t t2 with
  | none => rfl
  | some p =>
    obtain ⟨n, bts⟩ := p
    simp only [appS]
    cases srcOf M n y with
    | none => rfl
    | some new => rfl
/-! ### A slice of no, or of one value -/
def bsD (M : Mem) (ak n : Nat) : Option (List AV) → Option (AV × Mem)
  | some cs => if cs.length = n then (putObj M ak (.row 0 n [cs])).map fun M' => (.so ak 0 0 1, M') else none
  | none => none
theorem bsD_some (M : Mem) (ak n : Nat) (cs : List AV) : bsD M ak n (some cs) = if cs.length = n then (putObj M ak (.row 0 n [cs])).map fun M' => (.so ak 0 0 1, M') else none := _root_.id rfl
def bsB (lo : Nat) (M : Mem) (ak n : Nat) (c : Option (List AV)) : Option Value → Option (AV × Mem)
  | some z => if z.cells.size = n ∧ 0 < n ∧ 1 * n ≤ 16777216 ∧ lo ≤ ak then bsD M ak n c else none
  | none => none
theorem bsB_some (lo : Nat) (M : Mem) (ak n : Nat) (c : Option (List AV)) (z : Value) : bsB lo M ak n c (some z) = if z.cells.size = n ∧ 0 < n ∧ 1 * n ≤ 16777216 ∧ lo ≤ ak then bsD M ak n c else none := _root_.id rfl
def bsA (lo : Nat) (M : Mem) (ak : Nat) (c : Option (List AV)) (zf : TypeId → Option Value) : Option (TypeId × Nat × Nat) → Option (AV × Mem)
  | some (e, n, _) => bsB lo M ak n c (zf e)
  | none => none
theorem bsA_some (lo : Nat) (M : Mem) (ak : Nat) (c : Option (List AV)) (zf : TypeId → Option Value) (e n b : Nat) : bsA lo M ak c zf (some (e, n, b)) = bsB lo M ak n c (zf e) := _root_.id rfl
theorem bs1_is (P : Program) (lo : Nat) (M : Mem) (ak : Nat) (t : TypeId) (x : AV) : evBuildSlice P lo M ak t 1 [(0, x)] = bsA lo M ak x.cells (zeroOf P) (elemOf P t) := by
  unfold evBuildSlice bsA
  cases elemOf P t with
  | none => rfl
  | some p =>
    obtain ⟨e, n, b⟩ := p
    simp only [bsB]
    cases hz : zeroOf P e with
    | none => rfl
    | some z =>
      simp only
      by_cases hc : z.cells.size = n ∧ 0 < n ∧ 1 * n ≤ 16777216 ∧ lo ≤ ak
      · rw [if_pos hc, if_pos hc]
        have hl : (zrep z 1).length = n := by simp [zrep, ← hc.1]
        cases hx : x.cells with
        | none => simp [evFill, hx, bsD]
        | some cs =>
          simp only [bsD, evFill, hx, hl, Nat.zero_mul, Nat.zero_add, Nat.le_refl, and_true]
          by_cases h : cs.length = n
          · rw [if_pos h, if_pos h, splice_all (by rw [hl, h])]
            simp [chop, ← h]
          · rw [if_neg h, if_neg h]
      · rw [if_neg hc, if_neg hc]
def bsZ0 (lo : Nat) (M : Mem) (ak n : Nat) : Option Value → Option (AV × Mem)
  | some z => if z.cells.size = n ∧ 0 < n ∧ lo ≤ ak then (putObj M ak (.row 0 n [])).map fun M' => (.so ak 0 0 0, M') else none
  | none => none
theorem bsZ0_some (lo : Nat) (M : Mem) (ak n : Nat) (z : Value) : bsZ0 lo M ak n (some z) = if z.cells.size = n ∧ 0 < n ∧ lo ≤ ak then (putObj M ak (.row 0 n [])).map fun M' => (.so ak 0 0 0, M') else none := _root_.id rfl
def bsA0 (lo : Nat) (M : Mem) (ak : Nat) (zf : TypeId → Option Value) : Option (TypeId × Nat × Nat) → Option (AV × Mem)
  | some (e, n, _) => bsZ0 lo M ak n (zf e)
  | none => none
theorem bsA0_some (lo : Nat) (M : Mem) (ak : Nat) (zf : TypeId → Option Value) (e n b : Nat) : bsA0 lo M ak zf (some (e, n, b)) = bsZ0 lo M ak n (zf e) := _root_.id rfl
theorem bs0_is (P : Program) (lo : Nat) (M : Mem) (ak : Nat) (t : TypeId) : evBuildSlice P lo M ak t 0 [] = bsA0 lo M ak (zeroOf P) (elemOf P t) := by
  unfold evBuildSlice bsA0
  cases elemOf P t with
  | none => rfl
  | some p =>
    obtain ⟨e, n, b⟩ := p
    simp only [bsZ0]
    cases hz : zeroOf P e with
    | none => rfl
    | some z =>
      simp only [Nat.zero_mul, Nat.zero_le, true_and]
      by_cases hc : z.cells.size = n ∧ 0 < n ∧ lo ≤ ak
      · rw [if_pos hc, if_pos hc]
        simp [evFill, chop]
      · rw [if_neg hc, if_neg hc]
theorem src_sl {M : Mem} {n : Nat} {rows s : List (List AV)} (h : rowsOK n rows = true) : srcOf M n (.sl rows s) = some rows := by
  simp [srcOf, rowsOf, h]
def srcR (n ver off len : Nat) : Option AObj → Option (List (List AV))
  | some (.row ver' esz rows) => if ver' = ver ∧ esz = n ∧ off + len ≤ rows.length ∧ rowsOK n rows = true then some ((rows.drop off).take len) else none
  | _ => none
theorem srcR_row (n ver off len ver' esz : Nat) (rows : List (List AV)) : srcR n ver off len (some (.row ver' esz rows)) = if ver' = ver ∧ esz = n ∧ off + len ≤ rows.length ∧ rowsOK n rows = true then some ((rows.drop off).take len) else none := _root_.id rfl
theorem src_so (M : Mem) (n k ver off len : Nat) : srcOf M n (.so k ver off len) = srcR n ver off len M[k]? := by
  unfold srcOf rowsOf srcR
  rfl
theorem src_str {M : Mem} {s : ByteArray} : srcOf M 1 (.v (.string s)) = some (strRows s) := by
  simp [srcOf]
theorem src_nil {M : Mem} {n : Nat} : srcOf M n (.v (.slice none 0 0)) = some [] := by unfold srcOf rowsOf; rfl
theorem src_emp {M : Mem} {n : Nat} : srcOf M n .emp = some [] := by unfold srcOf rowsOf; rfl
theorem rowsOK_nil (n : Nat) : rowsOK n [] = true := _root_.id rfl
theorem rowsOK_cons (n : Nat) (r : List AV) (rs : List (List AV)) : rowsOK n (r :: rs) = ((r.length == n && okCells r) && rowsOK n rs) := _root_.id rfl
theorem rowsOK_app (n : Nat) (r rs : List (List AV)) : rowsOK n (r ++ rs) = (rowsOK n r && rowsOK n rs) := by simp [rowsOK]
end Go.Ag
/- ABSTRACT RUNS, BY HAND: regions whose order is open, with less to carry along. -/
namespace Go.Ag
open Go.RowKit

structure FSt where
  T : Env
  M : Mem
  ws : List (Nat × FP)
  rs : List (Nat × FP)
def isPureFP : FP → Bool
  | .keys [] => true
  | _ => false
def clashFree (bef : Array Nat) (i : Nat) (fp : FP) (l : List (Nat × FP)) : Bool := l.all fun x => !(fp.meets x.2) || (bef.getD i 0).testBit x.1

def evFastGo (c : Ctx) (ops : Array Oper) (bef : Array Nat) (len0 : Nat) : List Oper → Nat → FSt → Option FSt
  | [], _, s => some s
  | o :: rest, i, s =>
    if dstOK c.n o.dst then
      match wantedA ops (restr ops o s.T) o with
      | some false => evFastGo c ops bef len0 rest (i + 1) { s with T := putT s.T o.dst (.v undef) }
      | some true =>
        if (fpOf len0 s.M (len0 + rank ops i) (evA (restr ops o s.T)) o).2 = true then
          if (clashFree bef i (fpOf len0 s.M (len0 + rank ops i) (evA (restr ops o s.T)) o).1 s.ws && clashFree bef i (fpOf len0 s.M (len0 + rank ops i) (evA (restr ops o s.T)) o).1 s.rs) = true then
            match evOp c c.lo (maskM (fpOf len0 s.M (len0 + rank ops i) (evA (restr ops o s.T)) o).1.has s.M) (len0 + rank ops i) (restr ops o s.T) o with
            | some (.ret d, Mm) => if Mm.length = s.M.length then evFastGo c ops bef len0 rest (i + 1) ⟨putT s.T o.dst d, mergeM (fpOf len0 s.M (len0 + rank ops i) (evA (restr ops o s.T)) o).1.has s.M Mm, (i, (fpOf len0 s.M (len0 + rank ops i) (evA (restr ops o s.T)) o).1) :: s.ws, s.rs⟩ else none
            | _ => none
          else none
        else
          if (isPureFP (fpOf len0 s.M (len0 + rank ops i) (evA (restr ops o s.T)) o).1 || clashFree bef i (fpOf len0 s.M (len0 + rank ops i) (evA (restr ops o s.T)) o).1 s.ws) = true then
            match evOp c s.M.length (maskM (fpOf len0 s.M (len0 + rank ops i) (evA (restr ops o s.T)) o).1.has s.M) (len0 + rank ops i) (restr ops o s.T) o with
            | some (.ret d, Mm) => if Mm.length = s.M.length then evFastGo c ops bef len0 rest (i + 1) ⟨putT s.T o.dst d, s.M, s.ws, if isPureFP (fpOf len0 s.M (len0 + rank ops i) (evA (restr ops o s.T)) o).1 = true then s.rs else (i, (fpOf len0 s.M (len0 + rank ops i) (evA (restr ops o s.T)) o).1) :: s.rs⟩ else none
            | _ => none
          else none
      | none => none
    else none

/-- What the records say. -/
def RecsIn (recs : List Rec) (s : FSt) : Prop := ∀ (j : Nat) (r : Rec), recs[j]? = some r → (r.wr = true → (j, r.fp) ∈ s.ws) ∧ (r.wr = false → isPureFP r.fp = true ∨ (j, r.fp) ∈ s.rs)

theorem meets_pure {a b : FP} (h : isPureFP b = true) : a.meets b = false := by
  cases b with
  | keys ks =>
    cases ks with
    | nil => cases a <;> simp [FP.meets]
    | cons x xs => simp [isPureFP] at h
  | below n => simp [isPureFP] at h
theorem pure_meets {a b : FP} (h : isPureFP a = true) : a.meets b = false := by
  cases a with
  | keys ks =>
    cases ks with
    | nil => cases b <;> simp [FP.meets]
    | cons x xs => simp [isPureFP] at h
  | below n => simp [isPureFP] at h

theorem noClash_all {bef : Array Nat} {i : Nat} {fp : FP} {wr : Bool} : ∀ (recs : List Rec) (j : Nat), (∀ (m : Nat) (r : Rec), recs[m]? = some r → ((!((wr || r.wr) && fp.meets r.fp) || (bef.getD i 0).testBit (j + m)) = true)) → noClash bef i fp wr j recs = true
  | [], _, _ => rfl
  | r :: rs, j, h => by
    unfold noClash
    rw [Bool.and_eq_true]
    refine ⟨by simpa using h 0 r rfl, noClash_all rs (j + 1) fun m r' hm => ?_⟩
    have := h (m + 1) r' (by simpa using hm)
    rwa [show j + 1 + m = j + (m + 1) by omega]

theorem clashFree_get {bef : Array Nat} {i : Nat} {fp : FP} {l : List (Nat × FP)} (h : clashFree bef i fp l = true) {j : Nat} {f : FP} (hm : (j, f) ∈ l) : (!(fp.meets f) || (bef.getD i 0).testBit j) = true := List.all_eq_true.1 h _ hm

theorem RecsIn.push {recs : List Rec} {s s' : FSt} {r : Rec} (h : RecsIn recs s) (hw : ∀ x, x ∈ s.ws → x ∈ s'.ws) (hr : ∀ x, x ∈ s.rs → x ∈ s'.rs) (h1 : r.wr = true → (recs.length, r.fp) ∈ s'.ws) (h2 : r.wr = false → isPureFP r.fp = true ∨ (recs.length, r.fp) ∈ s'.rs) : RecsIn (recs ++ [r]) s' := by
  intro j r' hj
  rw [List.getElem?_append] at hj
  split at hj
  · obtain ⟨q1, q2⟩ := h j r' hj
    exact ⟨fun e => hw _ (q1 e), fun e => (q2 e).imp id (hr _)⟩
  · rename_i hlt
    have hj0 : j - recs.length = 0 := by
      cases hh : j - recs.length with
      | zero => rfl
      | succ m => rw [hh] at hj; simp at hj
    rw [hj0] at hj
    simp at hj
    subst hj
    have : j = recs.length := by omega
    subst this
    exact ⟨h1, h2⟩

theorem evFastGo_ok {c : Ctx} {ops : Array Oper} {bef : Array Nat} {len0 : Nat} : ∀ (l : List Oper) (i : Nat) (s s' : FSt) (recs : List Rec), evFastGo c ops bef len0 l i s = some s' → recs.length = i → RecsIn recs s → ∃ recs', evDrawnGo c ops bef len0 l i ⟨s.T, s.M, recs, none⟩ = some ⟨s'.T, s'.M, recs', none⟩
  | [], i, s, s', recs, h, _, _ => by
    simp only [evFastGo, Option.some.injEq] at h
    subst h
    exact ⟨recs, rfl⟩
  | o :: rest, i, s, s', recs, h, hl, hR => by
    simp only [evFastGo] at h
    split at h
    · rename_i hd
      split at h
      · rename_i hw
        obtain ⟨recs', hh⟩ := evFastGo_ok rest (i + 1) _ s' (recs ++ [⟨.keys [], false, o.dst, .v undef, [], true⟩]) h (by simp [hl]) (hR.push (fun _ h => h) (fun _ h => h) (by simp) (by simp [isPureFP]))
        exact ⟨recs', by simp only [evDrawnGo, hd, if_true, isDead, Bool.false_eq_true, if_false, hw]; exact hh⟩
      · rename_i hw
        split at h
        · rename_i hwr
          split at h
          · rename_i hcl
            rw [Bool.and_eq_true] at hcl
            split at h
            · rename_i d Mm hop
              split at h
              · rename_i hlen
                have hnc : noClash bef i (fpOf len0 s.M (len0 + rank ops i) (evA (restr ops o s.T)) o).1 (fpOf len0 s.M (len0 + rank ops i) (evA (restr ops o s.T)) o).2 0 recs = true := by
                  refine noClash_all recs 0 fun m r hm => ?_
                  obtain ⟨q1, q2⟩ := hR m r hm
                  rw [hwr, Bool.true_or, Bool.true_and, Nat.zero_add]
                  cases hrw : r.wr with
                  | true => exact clashFree_get hcl.1 (q1 hrw)
                  | false =>
                    rcases q2 hrw with q2 | q2
                    · rw [meets_pure q2]; rfl
                    · exact clashFree_get hcl.2 q2
                obtain ⟨recs', hh⟩ := evFastGo_ok rest (i + 1) _ s' (recs ++ [⟨(fpOf len0 s.M (len0 + rank ops i) (evA (restr ops o s.T)) o).1, (fpOf len0 s.M (len0 + rank ops i) (evA (restr ops o s.T)) o).2, o.dst, d, Mm, true⟩]) h (by simp [hl])
                  (hR.push (fun _ h => List.mem_cons_of_mem _ h) (fun _ h => h) (fun _ => by simp [hl]) (fun e => by rw [hwr] at e; cases e))
                refine ⟨recs', ?_⟩
                simp only [evDrawnGo, hd, if_true, isDead, Bool.false_eq_true, if_false, hw]
                rw [if_pos hnc]
                have hop' : ∀ lo', lo' = (if (fpOf len0 s.M (len0 + rank ops i) (evA (restr ops o s.T)) o).2 = true then c.lo else s.M.length) → evOp c lo' (maskM (fpOf len0 s.M (len0 + rank ops i) (evA (restr ops o s.T)) o).1.has s.M) (len0 + rank ops i) (restr ops o s.T) o = some (.ret d, Mm) := by
                  rintro lo' rfl; rw [if_pos hwr]; exact hop
                rw [hop' _ rfl]
                show (if _ then _ else none) = _
                rw [if_pos ⟨hlen, .inl rfl⟩, if_pos hwr]
                exact hh
              · cases h
            · cases h
          · cases h
        · rename_i hwr
          have hwr' : (fpOf len0 s.M (len0 + rank ops i) (evA (restr ops o s.T)) o).2 = false := by simpa using hwr
          split at h
          · rename_i hcl
            rw [Bool.or_eq_true] at hcl
            split at h
            · rename_i d Mm hop
              split at h
              · rename_i hlen
                have hnc : noClash bef i (fpOf len0 s.M (len0 + rank ops i) (evA (restr ops o s.T)) o).1 (fpOf len0 s.M (len0 + rank ops i) (evA (restr ops o s.T)) o).2 0 recs = true := by
                  refine noClash_all recs 0 fun m r hm => ?_
                  obtain ⟨q1, q2⟩ := hR m r hm
                  rw [hwr', Bool.false_or, Nat.zero_add]
                  cases hrw : r.wr with
                  | true =>
                    rw [Bool.true_and]
                    rcases hcl with hcl | hcl
                    · rw [pure_meets hcl]; rfl
                    · exact clashFree_get hcl (q1 hrw)
                  | false => simp
                obtain ⟨recs', hh⟩ := evFastGo_ok rest (i + 1) _ s' (recs ++ [⟨(fpOf len0 s.M (len0 + rank ops i) (evA (restr ops o s.T)) o).1, (fpOf len0 s.M (len0 + rank ops i) (evA (restr ops o s.T)) o).2, o.dst, d, Mm, true⟩]) h (by simp [hl])
                  (hR.push (fun _ h => h) (fun _ h => by
                      show _ ∈ (if _ then _ else _)
                      split
                      · exact h
                      · exact List.mem_cons_of_mem _ h)
                    (fun e => by rw [hwr'] at e; cases e)
                    (fun _ => by
                      cases hp : isPureFP (fpOf len0 s.M (len0 + rank ops i) (evA (restr ops o s.T)) o).1 with
                      | true => exact .inl rfl
                      | false =>
                        right
                        simp [hl, hp]))
                refine ⟨recs', ?_⟩
                simp only [evDrawnGo, hd, if_true, isDead, Bool.false_eq_true, if_false, hw]
                rw [if_pos hnc]
                have hop' : ∀ lo', lo' = (if (fpOf len0 s.M (len0 + rank ops i) (evA (restr ops o s.T)) o).2 = true then c.lo else s.M.length) → evOp c lo' (maskM (fpOf len0 s.M (len0 + rank ops i) (evA (restr ops o s.T)) o).1.has s.M) (len0 + rank ops i) (restr ops o s.T) o = some (.ret d, Mm) := by
                  rintro lo' rfl; rw [if_neg hwr]; exact hop
                rw [hop' _ rfl]
                show (if _ then _ else none) = _
                rw [if_pos ⟨hlen, .inl rfl⟩, if_neg hwr]
                exact hh
              · cases h
            · cases h
          · cases h
      · cases h
    · cases h

def evFast (c : Ctx) (ops : Array Oper) (bef : Array Nat) (T : Env) (M : Mem) : Option FSt := evFastGo c ops bef M.length ops.toList 0 ⟨T, M ++ List.replicate (ops.toList.filter isAlloc).length .resv, [], []⟩
def fastX (c : Ctx) (ops : Array Oper) (T : Env) (M : Mem) : Option FSt → Option (AExit × St)
  | some s => some (.normal, ⟨s.T, s.M⟩)
  | none => evDrawn c ops T M
theorem fastX_some (c : Ctx) (ops : Array Oper) (T : Env) (M : Mem) (T' : Env) (M' : Mem) (ws rs : List (Nat × FP)) : fastX c ops T M (some ⟨T', M', ws, rs⟩) = some (.normal, ⟨T', M'⟩) := _root_.id rfl
theorem d_fast (c : Ctx) (ops : Array Oper) (T : Env) (M : Mem) : evDrawn c ops T M = fastX c ops T M (evFast c ops (Region.before ops) T M) := by
  cases h : evFast c ops (Region.before ops) T M with
  | none => rfl
  | some s =>
    obtain ⟨recs', hh⟩ := evFastGo_ok _ _ _ _ [] h rfl (fun j r hj => by simp at hj)
    show evDrawn c ops T M = some (.normal, ⟨s.T, s.M⟩)
    unfold evDrawn
    rw [hh]

/-! ### Step by step -/
section
variable (c : Ctx) (ops : Array Oper) (bef : Array Nat) (len0 : Nat)
theorem evFast_is (T : Env) (M : Mem) : evFast c ops bef T M = evFastGo c ops bef M.length ops.toList 0 ⟨T, M ++ List.replicate (ops.toList.filter isAlloc).length .resv, [], []⟩ := _root_.id rfl
def fValW (rest : List Oper) (i : Nat) (s : FSt) (o : Oper) (fp : FP) (d : AV) (Mm : Mem) : Bool → Option FSt
  | true => evFastGo c ops bef len0 rest (i + 1) ⟨putT s.T o.dst d, mergeM fp.has s.M Mm, (i, fp) :: s.ws, s.rs⟩
  | false => none
def fOpW (rest : List Oper) (i : Nat) (s : FSt) (o : Oper) (fp : FP) : Option (ARes × Mem) → Option FSt
  | some (.ret d, Mm) => fValW c ops bef len0 rest i s o fp d Mm (decide (Mm.length = s.M.length))
  | _ => none
def fClW (rest : List Oper) (i : Nat) (s : FSt) (o : Oper) (fp : FP) : Bool → Option FSt
  | true => fOpW c ops bef len0 rest i s o fp (evOp c c.lo (maskM fp.has s.M) (len0 + rank ops i) (restr ops o s.T) o)
  | false => none
def fValR (rest : List Oper) (i : Nat) (s : FSt) (o : Oper) (fp : FP) (d : AV) (Mm : Mem) : Bool → Option FSt
  | true => evFastGo c ops bef len0 rest (i + 1) ⟨putT s.T o.dst d, s.M, s.ws, if isPureFP fp = true then s.rs else (i, fp) :: s.rs⟩
  | false => none
def fOpR (rest : List Oper) (i : Nat) (s : FSt) (o : Oper) (fp : FP) : Option (ARes × Mem) → Option FSt
  | some (.ret d, Mm) => fValR c ops bef len0 rest i s o fp d Mm (decide (Mm.length = s.M.length))
  | _ => none
def fClR (rest : List Oper) (i : Nat) (s : FSt) (o : Oper) (fp : FP) : Bool → Option FSt
  | true => fOpR c ops bef len0 rest i s o fp (evOp c s.M.length (maskM fp.has s.M) (len0 + rank ops i) (restr ops o s.T) o)
  | false => none
def fFp (rest : List Oper) (i : Nat) (s : FSt) (o : Oper) : FP × Bool → Option FSt
  | (fp, true) => fClW c ops bef len0 rest i s o fp (clashFree bef i fp s.ws && clashFree bef i fp s.rs)
  | (fp, false) => fClR c ops bef len0 rest i s o fp (isPureFP fp || clashFree bef i fp s.ws)
def fWantK (rest : List Oper) (i : Nat) (s : FSt) (o : Oper) : Bool → Option Bool → Option FSt
  | true, some false => evFastGo c ops bef len0 rest (i + 1) { s with T := putT s.T o.dst (.v undef) }
  | true, some true => fFp c ops bef len0 rest i s o (fpOf len0 s.M (len0 + rank ops i) (evA (restr ops o s.T)) o)
  | _, _ => none
theorem f_nil (i : Nat) (s : FSt) : evFastGo c ops bef len0 [] i s = some s := _root_.id rfl
theorem f_cons (o : Oper) (rest : List Oper) (i : Nat) (s : FSt) : evFastGo c ops bef len0 (o :: rest) i s = fWantK c ops bef len0 rest i s o (dstOK c.n o.dst) (wantedA ops (restr ops o s.T) o) := by
  rw [evFastGo]
  cases dstOK c.n o.dst with
  | false => rfl
  | true =>
    cases wantedA ops (restr ops o s.T) o with
    | none => rfl
    | some b =>
      cases b with
      | false => rfl
      | true =>
        simp only [if_true, fWantK]
        generalize fpOf len0 s.M (len0 + rank ops i) (evA (restr ops o s.T)) o = fw
        obtain ⟨fp, wr⟩ := fw
        cases wr with
        | true =>
          simp only [if_true, fFp]
          cases (clashFree bef i fp s.ws && clashFree bef i fp s.rs) with
          | false => rfl
          | true =>
            simp only [if_true, fClW]
            generalize evOp c c.lo (maskM fp.has s.M) (len0 + rank ops i) (restr ops o s.T) o = r
            cases r with
            | none => rfl
            | some q =>
              obtain ⟨q, Mm⟩ := q
              cases q with
              | pan p => rfl
              | ret d =>
                simp only [fOpW]
                split
                · rename_i h; rw [decide_eq_true h]; rfl
                · rename_i h; rw [decide_eq_false h]; rfl
        | false =>
          simp only [Bool.false_eq_true, if_false, fFp]
          cases (isPureFP fp || clashFree bef i fp s.ws) with
          | false => rfl
          | true =>
            simp only [if_true, fClR]
            generalize evOp c s.M.length (maskM fp.has s.M) (len0 + rank ops i) (restr ops o s.T) o = r
            cases r with
            | none => rfl
            | some q =>
              obtain ⟨q, Mm⟩ := q
              cases q with
              | pan p => rfl
              | ret d =>
                simp only [fOpR]
                split
                · rename_i h; rw [decide_eq_true h]; rfl
                · rename_i h; rw [decide_eq_false h]; rfl
theorem fWantK_no (rest : List Oper) (i : Nat) (s : FSt) (o : Oper) : fWantK c ops bef len0 rest i s o true (some false) = evFastGo c ops bef len0 rest (i + 1) { s with T := putT s.T o.dst (.v undef) } := _root_.id rfl
theorem fWantK_yes (rest : List Oper) (i : Nat) (s : FSt) (o : Oper) : fWantK c ops bef len0 rest i s o true (some true) = fFp c ops bef len0 rest i s o (fpOf len0 s.M (len0 + rank ops i) (evA (restr ops o s.T)) o) := _root_.id rfl
theorem fWantK_m (rest : List Oper) (i : Nat) (s : FSt) (o : Oper) (b : Bool) : fWantK c ops bef len0 rest i s o true (some b) = match b with
    | true => fFp c ops bef len0 rest i s o (fpOf len0 s.M (len0 + rank ops i) (evA (restr ops o s.T)) o)
    | false => evFastGo c ops bef len0 rest (i + 1) { s with T := putT s.T o.dst (.v undef) } := by cases b <;> rfl
theorem fWantK_nm (rest : List Oper) (i : Nat) (s : FSt) (o : Oper) (b : Bool) : fWantK c ops bef len0 rest i s o true (some (!b)) = match b with
    | true => evFastGo c ops bef len0 rest (i + 1) { s with T := putT s.T o.dst (.v undef) }
    | false => fFp c ops bef len0 rest i s o (fpOf len0 s.M (len0 + rank ops i) (evA (restr ops o s.T)) o) := by cases b <;> rfl
theorem fFp_w (rest : List Oper) (i : Nat) (s : FSt) (o : Oper) (fp : FP) : fFp c ops bef len0 rest i s o (fp, true) = fClW c ops bef len0 rest i s o fp (clashFree bef i fp s.ws && clashFree bef i fp s.rs) := _root_.id rfl
theorem fFp_r (rest : List Oper) (i : Nat) (s : FSt) (o : Oper) (fp : FP) : fFp c ops bef len0 rest i s o (fp, false) = fClR c ops bef len0 rest i s o fp (isPureFP fp || clashFree bef i fp s.ws) := _root_.id rfl
theorem fClW_t (rest : List Oper) (i : Nat) (s : FSt) (o : Oper) (fp : FP) : fClW c ops bef len0 rest i s o fp true = fOpW c ops bef len0 rest i s o fp (evOp c c.lo (maskM fp.has s.M) (len0 + rank ops i) (restr ops o s.T) o) := _root_.id rfl
theorem fClR_t (rest : List Oper) (i : Nat) (s : FSt) (o : Oper) (fp : FP) : fClR c ops bef len0 rest i s o fp true = fOpR c ops bef len0 rest i s o fp (evOp c s.M.length (maskM fp.has s.M) (len0 + rank ops i) (restr ops o s.T) o) := _root_.id rfl
theorem fOpW_r (rest : List Oper) (i : Nat) (s : FSt) (o : Oper) (fp : FP) (d : AV) (Mm : Mem) : fOpW c ops bef len0 rest i s o fp (some (.ret d, Mm)) = fValW c ops bef len0 rest i s o fp d Mm (decide (Mm.length = s.M.length)) := _root_.id rfl
theorem fOpR_r (rest : List Oper) (i : Nat) (s : FSt) (o : Oper) (fp : FP) (d : AV) (Mm : Mem) : fOpR c ops bef len0 rest i s o fp (some (.ret d, Mm)) = fValR c ops bef len0 rest i s o fp d Mm (decide (Mm.length = s.M.length)) := _root_.id rfl
theorem fValW_t (rest : List Oper) (i : Nat) (s : FSt) (o : Oper) (fp : FP) (d : AV) (Mm : Mem) : fValW c ops bef len0 rest i s o fp d Mm true = evFastGo c ops bef len0 rest (i + 1) ⟨putT s.T o.dst d, mergeM fp.has s.M Mm, (i, fp) :: s.ws, s.rs⟩ := _root_.id rfl
theorem fValR_t (rest : List Oper) (i : Nat) (s : FSt) (o : Oper) (fp : FP) (d : AV) (Mm : Mem) : fValR c ops bef len0 rest i s o fp d Mm true = evFastGo c ops bef len0 rest (i + 1) ⟨putT s.T o.dst d, s.M, s.ws, if isPureFP fp = true then s.rs else (i, fp) :: s.rs⟩ := _root_.id rfl
end
end Go.Ag
/- The closed facts on types, and on regions whose order is open, that the functions of this program ask. -/
open Go Go.Ag
namespace Go.Proofs.Th
set_option maxRecDepth 100000
@[simp] theorem lay_26 : Go.Ag.lay Try.prog 26 = some (true, 7) := id (by kernel_rfl)
@[simp] theorem zero_26 : Go.Ag.zeroOf Try.prog 26 = some (Value.agg #[Value.int IntKind.i64 0, Value.int IntKind.i64 0, Value.int IntKind.i64 0, Value.int IntKind.i64 0, Value.string ByteArray.empty, Value.slice none 0 0, Value.slice none 0 0]) := id (by kernel_rfl)
@[simp] theorem fld_26_0 : Go.Ag.fieldOff Try.prog 26 0 = some 0 := id (by kernel_rfl)
@[simp] theorem lay_22 : Go.Ag.lay Try.prog 22 = some (false, 1) := id (by kernel_rfl)
@[simp] theorem issl_30 : Go.Ag.isSlice Try.prog 30 = true := id (by kernel_rfl)
@[simp] theorem convk_30_9 : Go.Ag.convK Try.prog 30 9 = CvK.toStr := id (by kernel_rfl)
@[simp] theorem elem_30 : Go.Ag.elemOf Try.prog 30 = some (5, 1, 1) := id (by kernel_rfl)
@[simp] theorem appty_30_30 : Go.Ag.appTy Try.prog 30 30 = some (1, 1) := id (by kernel_rfl)
@[simp] theorem isstr_30 : Go.Ag.isStr Try.prog 30 = false := id (by kernel_rfl)
@[simp] theorem lay_5 : Go.Ag.lay Try.prog 5 = some (false, 1) := id (by kernel_rfl)
@[simp] theorem elem_23 : Go.Ag.elemOf Try.prog 23 = some (3, 1, 8) := id (by kernel_rfl)
@[simp] theorem elem_24 : Go.Ag.elemOf Try.prog 24 = some (26, 7, 96) := id (by kernel_rfl)
@[simp] theorem fld_26_6 : Go.Ag.fieldOff Try.prog 26 6 = some 6 := id (by kernel_rfl)
@[simp] theorem lay_24 : Go.Ag.lay Try.prog 24 = some (false, 1) := id (by kernel_rfl)
@[simp] theorem issl_24 : Go.Ag.isSlice Try.prog 24 = true := id (by kernel_rfl)
@[simp] theorem isstr_24 : Go.Ag.isStr Try.prog 24 = false := id (by kernel_rfl)
@[simp] theorem appty_24_24 : Go.Ag.appTy Try.prog 24 24 = some (7, 96) := id (by kernel_rfl)
@[simp] theorem fld_26_4 : Go.Ag.fieldOff Try.prog 26 4 = some 4 := id (by kernel_rfl)
@[simp] theorem lay_9 : Go.Ag.lay Try.prog 9 = some (false, 1) := id (by kernel_rfl)
@[simp] theorem issl_9 : Go.Ag.isSlice Try.prog 9 = false := id (by kernel_rfl)
@[simp] theorem fld_26_5 : Go.Ag.fieldOff Try.prog 26 5 = some 5 := id (by kernel_rfl)
@[simp] theorem lay_23 : Go.Ag.lay Try.prog 23 = some (false, 1) := id (by kernel_rfl)
@[simp] theorem issl_23 : Go.Ag.isSlice Try.prog 23 = true := id (by kernel_rfl)
@[simp] theorem lay_3 : Go.Ag.lay Try.prog 3 = some (false, 1) := id (by kernel_rfl)
@[simp] theorem fld_49_0 : Go.Ag.fieldOff Try.prog 49 0 = some 0 := id (by kernel_rfl)
@[simp] theorem lay_30 : Go.Ag.lay Try.prog 30 = some (false, 1) := id (by kernel_rfl)
@[simp] theorem fld_49_1 : Go.Ag.fieldOff Try.prog 49 1 = some 1 := id (by kernel_rfl)
@[simp] theorem appty_23_23 : Go.Ag.appTy Try.prog 23 23 = some (1, 8) := id (by kernel_rfl)
@[simp] theorem isstr_23 : Go.Ag.isStr Try.prog 23 = false := id (by kernel_rfl)
@[simp] theorem zero_53 : Go.Ag.zeroOf Try.prog 53 = some (Value.agg #[Value.slice none 0 0]) := id (by kernel_rfl)
@[simp] theorem fld_53_0 : Go.Ag.fieldOff Try.prog 53 0 = some 0 := id (by kernel_rfl)
@[simp] theorem fld_26_3 : Go.Ag.fieldOff Try.prog 26 3 = some 3 := id (by kernel_rfl)
@[simp] theorem lay_2 : Go.Ag.lay Try.prog 2 = some (false, 1) := id (by kernel_rfl)
@[simp] theorem convk_2_5 : Go.Ag.convK Try.prog 2 5 = CvK.other := id (by kernel_rfl)
@[simp] theorem convk_3_56 : Go.Ag.convK Try.prog 3 56 = CvK.other := id (by kernel_rfl)
@[simp] theorem convk_9_30 : Go.Ag.convK Try.prog 9 30 = CvK.toBytes := id (by kernel_rfl)
@[simp] theorem fld_26_2 : Go.Ag.fieldOff Try.prog 26 2 = some 2 := id (by kernel_rfl)
@[simp] theorem convk_3_5 : Go.Ag.convK Try.prog 3 5 = CvK.other := id (by kernel_rfl)
@[simp] theorem fld_26_1 : Go.Ag.fieldOff Try.prog 26 1 = some 1 := id (by kernel_rfl)
@[simp] theorem lay_31 : Go.Ag.lay Try.prog 31 = some (false, 1) := id (by kernel_rfl)
@[simp] theorem zero_3 : Go.Ag.zeroOf Try.prog 3 = some (Value.int IntKind.i64 0) := id (by kernel_rfl)
@[simp] theorem zero_31 : Go.Ag.zeroOf Try.prog 31 = some (Value.int IntKind.i64 0) := id (by kernel_rfl)
@[simp] theorem fld_65_0 : Go.Ag.fieldOff Try.prog 65 0 = some 0 := id (by kernel_rfl)
@[simp] theorem fld_63_0 : Go.Ag.fieldOff Try.prog 63 0 = some 0 := id (by kernel_rfl)
@[simp] theorem fld_69_2 : Go.Ag.fieldOff Try.prog 69 2 = some 2 := id (by kernel_rfl)
@[simp] theorem fld_69_1 : Go.Ag.fieldOff Try.prog 69 1 = some 1 := id (by kernel_rfl)
@[simp] theorem appty_30_9 : Go.Ag.appTy Try.prog 30 9 = some (1, 1) := id (by kernel_rfl)
@[simp] theorem convk_56_5 : Go.Ag.convK Try.prog 56 5 = CvK.other := id (by kernel_rfl)
@[simp] theorem convk_2_56 : Go.Ag.convK Try.prog 2 56 = CvK.other := id (by kernel_rfl)
@[simp] theorem iface_60 : Go.Ag.isIface Try.prog 60 = some false := id (by kernel_rfl)
@[simp] theorem zero_60 : Go.Ag.zeroOf Try.prog 60 = some (Value.agg #[]) := id (by kernel_rfl)
@[simp] theorem lay_60 : Go.Ag.lay Try.prog 60 = some (true, 0) := id (by kernel_rfl)
@[simp] theorem iface_61 : Go.Ag.isIface Try.prog 61 = some false := id (by kernel_rfl)
@[simp] theorem zero_61 : Go.Ag.zeroOf Try.prog 61 = some (Value.agg #[]) := id (by kernel_rfl)
@[simp] theorem lay_61 : Go.Ag.lay Try.prog 61 = some (true, 0) := id (by kernel_rfl)
@[simp] theorem lay_62 : Go.Ag.lay Try.prog 62 = some (false, 1) := id (by kernel_rfl)
@[simp] theorem convk_5_2 : Go.Ag.convK Try.prog 5 2 = CvK.other := id (by kernel_rfl)
@[simp] theorem convk_5_84 : Go.Ag.convK Try.prog 5 84 = CvK.other := id (by kernel_rfl)
@[simp] theorem convk_84_2 : Go.Ag.convK Try.prog 84 2 = CvK.other := id (by kernel_rfl)
@[simp] theorem convk_5_3 : Go.Ag.convK Try.prog 5 3 = CvK.other := id (by kernel_rfl)
@[simp] theorem convk_56_3 : Go.Ag.convK Try.prog 56 3 = CvK.other := id (by kernel_rfl)
@[simp] theorem mapty_98 : Go.Ag.mapTy Try.prog 98 = some (TypeDesc.int IntKind.i64, 34) := id (by kernel_rfl)
@[simp] theorem convk_56_2 : Go.Ag.convK Try.prog 56 2 = CvK.other := id (by kernel_rfl)
@[simp] theorem mapty_103 : Go.Ag.mapTy Try.prog 103 = some (TypeDesc.int IntKind.i64, 3) := id (by kernel_rfl)
@[simp] theorem convk_5_56 : Go.Ag.convK Try.prog 5 56 = CvK.other := id (by kernel_rfl)
@[simp] theorem fld_69_0 : Go.Ag.fieldOff Try.prog 69 0 = some 0 := id (by kernel_rfl)
@[simp] theorem und_9 : Try.prog.underlying 9 = some TypeDesc.string := id (by kernel_rfl)
@[simp] theorem und_2 : Try.prog.underlying 2 = some (TypeDesc.int IntKind.i64) := id (by kernel_rfl)
@[simp] theorem und_31 : Try.prog.underlying 31 = some (TypeDesc.int IntKind.i64) := id (by kernel_rfl)
@[simp] theorem und_3 : Try.prog.underlying 3 = some (TypeDesc.int IntKind.i64) := id (by kernel_rfl)
@[simp] theorem und_56 : Try.prog.underlying 56 = some (TypeDesc.int IntKind.u64) := id (by kernel_rfl)
@[simp] theorem und_84 : Try.prog.underlying 84 = some (TypeDesc.int IntKind.i8) := id (by kernel_rfl)
@[simp] theorem und_22 : Try.prog.underlying 22 = some (TypeDesc.int IntKind.i64) := id (by kernel_rfl)
@[simp] theorem und_23 : Try.prog.underlying 23 = some (TypeDesc.slice 3) := id (by kernel_rfl)
@[simp] theorem und_5 : Try.prog.underlying 5 = some (TypeDesc.int IntKind.u8) := id (by kernel_rfl)
@[simp] theorem und_20 : Try.prog.underlying 20 = some (TypeDesc.interface #[]) := id (by kernel_rfl)
@[simp] theorem und_4 : Try.prog.underlying 4 = some TypeDesc.bool := id (by kernel_rfl)
@[simp] theorem und_30 : Try.prog.underlying 30 = some (TypeDesc.slice 5) := id (by kernel_rfl)
@[simp] theorem zero_5 : Go.Ag.zeroOf Try.prog 5 = some (Value.int IntKind.u8 0) := id (by kernel_rfl)
@[simp] theorem zero_63 : Go.Ag.zeroOf Try.prog 63 = some (Value.agg #[Value.slice none 0 0]) := id (by kernel_rfl)
@[simp] theorem zero_65 : Go.Ag.zeroOf Try.prog 65 = some (Value.agg #[Value.slice none 0 0]) := id (by kernel_rfl)
@[simp] theorem zero_69 : Go.Ag.zeroOf Try.prog 69 = some (Value.agg #[Value.slice none 0 0, Value.int IntKind.i64 0, Value.int IntKind.i64 0]) := id (by kernel_rfl)
@[simp] theorem zero_91 : Go.Ag.zeroOf Try.prog 91 = some (Value.agg #[Value.int IntKind.i64 0, Value.int IntKind.i64 0]) := id (by kernel_rfl)
noncomputable def pl_26 : Nat → Option (Nat × Nat) := (placeFn Try.prog 26).getD fun _ => none
theorem place_26 : placeFn Try.prog 26 = some pl_26 := by
  have h : (placeFn Try.prog 26).isSome = true := by kernel_rfl
  unfold pl_26
  cases hh : placeFn Try.prog 26 with
  | none => rw [hh] at h; cases h
  | some x => rfl
@[simp] theorem pl_26_0 : pl_26 0 = some (0, 1) := id (by kernel_rfl)
@[simp] theorem pl_26_1 : pl_26 1 = some (1, 1) := id (by kernel_rfl)
@[simp] theorem pl_26_2 : pl_26 2 = some (2, 1) := id (by kernel_rfl)
@[simp] theorem pl_26_3 : pl_26 3 = some (3, 1) := id (by kernel_rfl)
@[simp] theorem pl_26_4 : pl_26 4 = some (4, 1) := id (by kernel_rfl)
@[simp] theorem pl_26_5 : pl_26 5 = some (5, 1) := id (by kernel_rfl)
@[simp] theorem pl_26_6 : pl_26 6 = some (6, 1) := id (by kernel_rfl)
@[simp] theorem build_26 (parts : List (Nat × AV)) : evBuild Try.prog 26 parts = (match zeroOf Try.prog 26 with | some z => (evFill pl_26 (z.cells.toList.map constCell) parts).map .agg | none => none) := by
  unfold evBuild
  rw [place_26]
  rfl
noncomputable def pl_63 : Nat → Option (Nat × Nat) := (placeFn Try.prog 63).getD fun _ => none
theorem place_63 : placeFn Try.prog 63 = some pl_63 := by
  have h : (placeFn Try.prog 63).isSome = true := by kernel_rfl
  unfold pl_63
  cases hh : placeFn Try.prog 63 with
  | none => rw [hh] at h; cases h
  | some x => rfl
@[simp] theorem pl_63_0 : pl_63 0 = some (0, 1) := id (by kernel_rfl)
@[simp] theorem build_63 (parts : List (Nat × AV)) : evBuild Try.prog 63 parts = (match zeroOf Try.prog 63 with | some z => (evFill pl_63 (z.cells.toList.map constCell) parts).map .agg | none => none) := by
  unfold evBuild
  rw [place_63]
  rfl
noncomputable def pl_65 : Nat → Option (Nat × Nat) := (placeFn Try.prog 65).getD fun _ => none
theorem place_65 : placeFn Try.prog 65 = some pl_65 := by
  have h : (placeFn Try.prog 65).isSome = true := by kernel_rfl
  unfold pl_65
  cases hh : placeFn Try.prog 65 with
  | none => rw [hh] at h; cases h
  | some x => rfl
@[simp] theorem pl_65_0 : pl_65 0 = some (0, 1) := id (by kernel_rfl)
@[simp] theorem build_65 (parts : List (Nat × AV)) : evBuild Try.prog 65 parts = (match zeroOf Try.prog 65 with | some z => (evFill pl_65 (z.cells.toList.map constCell) parts).map .agg | none => none) := by
  unfold evBuild
  rw [place_65]
  rfl
noncomputable def pl_69 : Nat → Option (Nat × Nat) := (placeFn Try.prog 69).getD fun _ => none
theorem place_69 : placeFn Try.prog 69 = some pl_69 := by
  have h : (placeFn Try.prog 69).isSome = true := by kernel_rfl
  unfold pl_69
  cases hh : placeFn Try.prog 69 with
  | none => rw [hh] at h; cases h
  | some x => rfl
@[simp] theorem pl_69_0 : pl_69 0 = some (0, 1) := id (by kernel_rfl)
@[simp] theorem build_69 (parts : List (Nat × AV)) : evBuild Try.prog 69 parts = (match zeroOf Try.prog 69 with | some z => (evFill pl_69 (z.cells.toList.map constCell) parts).map .agg | none => none) := by
  unfold evBuild
  rw [place_69]
  rfl
noncomputable def pl_60 : Nat → Option (Nat × Nat) := (placeFn Try.prog 60).getD fun _ => none
theorem place_60 : placeFn Try.prog 60 = some pl_60 := by
  have h : (placeFn Try.prog 60).isSome = true := by kernel_rfl
  unfold pl_60
  cases hh : placeFn Try.prog 60 with
  | none => rw [hh] at h; cases h
  | some x => rfl
@[simp] theorem build_60 (parts : List (Nat × AV)) : evBuild Try.prog 60 parts = (match zeroOf Try.prog 60 with | some z => (evFill pl_60 (z.cells.toList.map constCell) parts).map .agg | none => none) := by
  unfold evBuild
  rw [place_60]
  rfl
noncomputable def pl_61 : Nat → Option (Nat × Nat) := (placeFn Try.prog 61).getD fun _ => none
theorem place_61 : placeFn Try.prog 61 = some pl_61 := by
  have h : (placeFn Try.prog 61).isSome = true := by kernel_rfl
  unfold pl_61
  cases hh : placeFn Try.prog 61 with
  | none => rw [hh] at h; cases h
  | some x => rfl
@[simp] theorem build_61 (parts : List (Nat × AV)) : evBuild Try.prog 61 parts = (match zeroOf Try.prog 61 with | some z => (evFill pl_61 (z.cells.toList.map constCell) parts).map .agg | none => none) := by
  unfold evBuild
  rw [place_61]
  rfl
noncomputable def pl_91 : Nat → Option (Nat × Nat) := (placeFn Try.prog 91).getD fun _ => none
theorem place_91 : placeFn Try.prog 91 = some pl_91 := by
  have h : (placeFn Try.prog 91).isSome = true := by kernel_rfl
  unfold pl_91
  cases hh : placeFn Try.prog 91 with
  | none => rw [hh] at h; cases h
  | some x => rfl
@[simp] theorem pl_91_0 : pl_91 0 = some (0, 1) := id (by kernel_rfl)
@[simp] theorem pl_91_1 : pl_91 1 = some (1, 1) := id (by kernel_rfl)
@[simp] theorem build_91 (parts : List (Nat × AV)) : evBuild Try.prog 91 parts = (match zeroOf Try.prog 91 with | some z => (evFill pl_91 (z.cells.toList.map constCell) parts).map .agg | none => none) := by
  unfold evBuild
  rw [place_91]
  rfl
theorem bef_3_7 : Region.before (opsOf (Try.f3.body.getD .skip) 7) = #[0, 1, 0, 4, 12, 31, 63, 127, 255, 511, 1023, 2047, 4095, 4095, 16383, 32767, 65535, 131071, 262143, 524287] := id (by kernel_rfl)
theorem bef_5_18 : Region.before (opsOf (Try.f5.body.getD .skip) 18) = #[0, 0, 2, 7, 0, 16, 63, 127, 0, 511] := id (by kernel_rfl)
theorem bef_5_20 : Region.before (opsOf (Try.f5.body.getD .skip) 20) = #[0, 0, 2, 7, 0, 16, 48, 127, 255, 511] := id (by kernel_rfl)
theorem bef_6_12 : Region.before (opsOf (Try.f6.body.getD .skip) 12) = #[0, 0, 3, 7, 15, 31, 31, 127, 255, 511, 1023, 1023, 4095, 1023, 1023, 32767, 65535, 131071, 262143, 524287, 524287, 2097151, 524287, 524287, 16777215, 33554431, 67108863, 134217727, 268435455, 268435455, 1073741823, 2147483647, 4294967295] := id (by kernel_rfl)
theorem bef_7_1 : Region.before (opsOf (Try.f7.body.getD .skip) 1) = #[0, 1, 0, 4, 3, 31] := id (by kernel_rfl)
theorem bef_7_15 : Region.before (opsOf (Try.f7.body.getD .skip) 15) = #[0, 1, 3, 7, 15, 31, 15, 79, 255, 15, 15, 1551, 4095, 8191, 16383, 16383, 65535, 131071, 262143, 524287, 1048575, 1048575, 4194303, 8388607, 16777215, 33554431, 67108863, 134217727, 268435455, 536870911] := id (by kernel_rfl)
theorem bef_8_9 : Region.before (opsOf (Try.f8.body.getD .skip) 9) = #[0, 1, 3, 7, 15, 31, 63, 127, 255, 255, 767, 2047, 4095, 8191, 16383, 32767, 16383, 16383, 212991, 475135, 1048575, 2097151, 4194303, 8388607, 16777215, 33554431, 67108863, 134217727, 268435455, 268435455, 1073741823, 2147483647, 4294967295, 8589934591, 8589934591, 34359738367, 68719476735, 137438953471, 274877906943, 549755813887, 1099511627775] := id (by kernel_rfl)
theorem bef_11_1 : Region.before (opsOf (Try.f11.body.getD .skip) 1) = #[0, 0, 2, 7, 0, 31, 0, 64, 192, 511, 1023, 2047] := id (by kernel_rfl)
theorem bef_11_7 : Region.before (opsOf (Try.f11.body.getD .skip) 7) = #[0, 0, 2, 7, 0, 16, 48, 127, 255, 511] := id (by kernel_rfl)
theorem bef_15_1 : Region.before (opsOf (Try.f15.body.getD .skip) 1) = #[0, 0, 3, 7, 15, 31, 63, 31, 159, 415, 927, 2047, 31, 4127, 12319, 32767, 65535, 131071, 262143, 524287, 1048575, 2097151, 1048575, 5242879, 13631487, 30408703, 67108863, 1048575, 135266303, 403701759, 1073741823, 2147483647, 4294967295, 8589934591, 17179869183] := id (by kernel_rfl)
theorem bef_15_6 : Region.before (opsOf (Try.f15.body.getD .skip) 6) = #[0, 1, 0, 7, 15, 0, 32, 0, 224, 480, 1023, 2047] := id (by kernel_rfl)
theorem bef_16_18 : Region.before (opsOf (Try.f16.body.getD .skip) 18) = #[0, 1, 3, 7, 15, 0, 32, 96, 255, 511] := id (by kernel_rfl)
theorem bef_16_36 : Region.before (opsOf (Try.f16.body.getD .skip) 36) = #[0, 0, 2, 0, 14, 30, 0, 64, 0, 448, 960, 0, 4094, 8191, 16383] := id (by kernel_rfl)
theorem bef_17_4 : Region.before (opsOf (Try.f17.body.getD .skip) 4) = #[0, 0, 2, 0, 8, 24, 56, 120, 248, 510, 1, 2047, 4095] := id (by kernel_rfl)
theorem bef_18_4 : Region.before (opsOf (Try.f18.body.getD .skip) 4) = #[0, 0, 2, 6, 14, 1, 33, 127] := id (by kernel_rfl)
theorem bef_18_5 : Region.before (opsOf (Try.f18.body.getD .skip) 5) = #[0, 0, 2, 6, 14, 1, 63, 127] := id (by kernel_rfl)
theorem bef_19_6 : Region.before (opsOf (Try.f19.body.getD .skip) 6) = #[0, 1, 0, 7, 15, 0, 32, 0, 224, 480, 1023] := id (by kernel_rfl)
theorem bef_19_11 : Region.before (opsOf (Try.f19.body.getD .skip) 11) = #[0, 1, 0, 7, 15, 0, 32, 0, 224, 480, 1023, 2047] := id (by kernel_rfl)
theorem bef_24_1 : Region.before (opsOf (Try.f24.body.getD .skip) 1) = #[0, 1, 0, 4, 15, 31, 63, 63, 191, 511, 1023, 63, 2111, 8191, 16383, 32767] := id (by kernel_rfl)
theorem bef_25_18 : Region.before (opsOf (Try.f25.body.getD .skip) 18) = #[0, 0, 2, 6, 14, 0, 32, 126, 255, 511, 1023] := id (by kernel_rfl)
theorem bef_26_1 : Region.before (opsOf (Try.f26.body.getD .skip) 1) = #[0, 1, 3, 7, 15, 31, 63, 127, 255, 511, 1023, 2047, 4095, 8191, 16383, 32767, 65535, 32767, 163839, 425983, 1048575, 2097151, 4194303, 8388607, 16777215, 33554431, 67108863, 134217727, 268435455] := id (by kernel_rfl)
theorem bef_31_12 : Region.before (opsOf (Try.f31.body.getD .skip) 12) = #[0, 0, 2, 7, 15, 31] := id (by kernel_rfl)
theorem bef_31_17 : Region.before (opsOf (Try.f31.body.getD .skip) 17) = #[0, 1, 0, 4, 0, 16, 60, 127, 255, 511] := id (by kernel_rfl)
theorem bef_31_24 : Region.before (opsOf (Try.f31.body.getD .skip) 24) = #[0, 0, 2, 6, 14, 30, 0, 126, 255, 511, 1023, 2047] := id (by kernel_rfl)
theorem bef_31_39 : Region.before (opsOf (Try.f31.body.getD .skip) 39) = #[0, 0, 2, 0, 8, 31, 0, 0, 128, 0, 512, 2047, 4095, 8191, 16383, 32767] := id (by kernel_rfl)
theorem bef_33_3 : Region.before (opsOf (Try.f33.body.getD .skip) 3) = #[0, 0, 2, 7, 15, 31, 31, 63, 255] := id (by kernel_rfl)
theorem bef_36_6 : Region.before (opsOf (Try.f36.body.getD .skip) 6) = #[0, 0, 3, 7, 0, 0, 48, 112, 255] := id (by kernel_rfl)
theorem bef_57_2 : Region.before (opsOf (Try.f57.body.getD .skip) 2) = #[0, 0, 2, 0, 8, 30, 0, 64, 254, 0, 512, 2047, 4095] := id (by kernel_rfl)
theorem bef_58_6 : Region.before (opsOf (Try.f58.body.getD .skip) 6) = #[0, 1, 3, 7, 0, 16, 48, 112, 240, 496, 1023, 2047, 4095] := id (by kernel_rfl)
theorem bef_58_20 : Region.before (opsOf (Try.f58.body.getD .skip) 20) = #[0, 1, 3, 7, 0, 15, 0, 127, 255, 511, 255, 1279, 3327] := id (by kernel_rfl)
theorem bef_59_3 : Region.before (opsOf (Try.f59.body.getD .skip) 3) = #[0, 1, 3, 7, 0, 16, 48, 112, 240, 511] := id (by kernel_rfl)
theorem bef_59_7 : Region.before (opsOf (Try.f59.body.getD .skip) 7) = #[0, 1, 3, 7, 0, 16, 48, 112, 240, 511, 1023, 2047] := id (by kernel_rfl)
theorem bef_63_26 : Region.before (opsOf (Try.f63.body.getD .skip) 26) = #[0, 1, 3, 7, 15, 31, 63, 63, 191, 447, 959, 1983, 63, 4159, 12351, 28735, 65471, 131071, 262143] := id (by kernel_rfl)
theorem bef_63_29 : Region.before (opsOf (Try.f63.body.getD .skip) 29) = #[0, 1, 3, 7, 0, 16, 48, 112, 0, 256, 768, 1792, 0, 7936, 16383, 32767, 65535, 131071] := id (by kernel_rfl)
theorem bef_76_3 : Region.before (opsOf (Try.f76.body.getD .skip) 3) = #[0, 1, 3, 7, 15, 31, 63, 127, 255, 511, 1023, 2047, 4095, 8191, 16383, 32767, 65535, 131071, 262143, 524287, 1048575, 2097151, 4194303, 8388607, 16777215, 33554431, 67108863, 134217727, 268435455, 536870911, 1073741823, 2147483647, 536870911, 4831838207, 17179869183, 34359738367, 68719476735, 137438953471, 274877906943, 549755813887, 137438953471, 1236950581247, 4398046511103, 8796093022207, 17592186044415] := id (by kernel_rfl)
end Go.Proofs.Th
/- THRIFT: what the program is asked once. -/
open Go Go.Ag
namespace Go.Proofs.Th
theorem pchk : PChk Try.prog := ⟨by kernel_rfl, by kernel_rfl⟩
end Go.Proofs.Th
/- THRIFT: the program's functions, one by one: the first ones. -/
open Go Go.Ag
namespace Go.Proofs.Th

/-- What the runs are told. -/
def reg (f : FuncId) (r : Nat) : Option Ann := match f, r with
  | 12, 4 => some { nilsO := [(1, 0, 1)] }
  | 31, 2 => some { nilsO := [(3, 5, 1), (3, 6, 7)] }
  | 77, 2 => some { nils := [(5, 7)] }
  | 77, 3 => some { live := some [0, 5, 6], keep := some 1 }
  | 40, 0 => some { live := some [0, 1], keep := some 0 }
  | 25, 31 => some { live := some [0, 3, 110, 111, 112], keep := some 1 }
  | 41, 3 => some { live := some [0, 3, 4, 10, 11, 12], keep := some 1 }
  | 27, 2 => some { live := some [0, 3], nils := [(3, 1)], keep := some 1 }
  | 11, 2 => some { live := some [1, 2], head := some (2, 4), keep := some 2 }
  | 11, 3 => some { nils := [(3, 7)] }
  | 11, 4 => some { live := some [1, 2, 3, 4], keep := some 3 }
  | 19, 9 => some { live := some [2, 3, 4, 6], keep := some 2 }
  | 15, 4 => some { live := some [2, 3, 4, 5], keep := some 2 }
  | 26, 3 => some { keep := some 1 }
  | 52, 2 => some { nils := [(5, 1)] }
  | 55, 2 => some { nils := [(5, 7)] }
  | 55, 3 => some { live := some [1, 5, 7, 8], keep := some 1 }
  | 37, 4 => some { live := some [1, 2, 15, 16, 17], keep := some 0 }
  | 72, 3 => some { nilsO := [(1, 6, 7)] }
  | 72, 10 => some { live := some [0, 1, 4, 6, 7, 8], keep := some 3 }
  | 73, 2 => some { nilsO := [(1, 6, 7)] }
  | 73, 10 => some { live := some [0, 1, 4, 5, 6, 8], keep := some 3 }
  | 32, 2 => some { nilsO := [(1, 5, 1), (1, 6, 7)] }
  | 32, 3 => some { live := some [0, 1, 4, 5, 6], keep := some 4 }
  | 35, 3 => some { nils := [(3, 7)] }
  | 35, 4 => some { live := some [1, 2, 3, 11, 12, 13], keep := some 3 }
  | 16, 12 => some { nils := [(3, 1)] }
  | 16, 13 => some { live := some [1, 3, 4], keep := some 2 }
  | 16, 20 => some { nils := [(5, 1)] }
  | 16, 32 => some { live := some [1, 5, 6, 7], keep := some 2 }
  | _, _ => none
def fin (f : FuncId) : Option Nat := match f with
  | 27 => none
  | _ => some 4
attribute [simp] fin
def ann : FuncId → AnnF := fun f => { reg := reg f, fin := fin f }
noncomputable abbrev ev := evW Try.prog ann

attribute [local simp] ec_skip ec_region ec_seq ec_cond ec_block ec_loop ec_exit ec_ret seqK_normal seqK_exit seqK_ret seqK_pan condK_true condK_false blockK_exit blockK_normal blockK_ret blockK_pan regionK_plain regionK_draw eo_nil eo_cons cutS_nil cutOf opK_is wantK_yes wantK_no stepK_ret stepK_pan endK_normal endK_ret endK_pan annotate headS wantedA evOp evOp1 evA Ag.get putT dstOK argsEnv retK resR resAll resOne constAV constCell Ctx.bss evLoad evStore AV.cells intOfAV AV.val AV.vals splice okCell okCells_nil okCells_cons finish AV.lt AV.lts AV.ltss putObj partOf restrT ltT ownOK bsOK bsOKs List.lookup_cons pr_bind pr_pure pr_guard_int pr_guard_str pr_guard_bool pr_add pr_sub pr_mul pr_eql pr_neq pr_lss pr_leq pr_gtr pr_geq pr_seql pr_sneq pr_not pr_shl pr_shr pr_quo pr_rem pr_and pr_or pr_xor pr_conv pr_min2 pr_max2 undef callP plA plS plR plO nameP ARes.keys callW callAt callKs inS outS backK reachW pickM renObjs AObj.ren AV.ren AV.rens renss renE posOf backM outK lokAt ARes.ren AV.keys AV.keyss objKeys evFieldAddr evIndexAddr evLen evFill List.range_succ Value.oneCell' evInsert mfind sameKey isKey AObj.lt Value.cells
attribute [local simp] look_mp look_mp2 look_imp look_imp2 lookV lookB intKeys cond_vint cond_vbool bits_i64 bits_u64 bits_u8 bits_i8 bits_i32 bits_u32
attribute [local simp] wrap64_in wrapu64_in wrapu8_in
attribute [local simp] fz_int fz_str fz_bool fz_float fz_nilp fz_tuple fz_nili fz_nilf fz_nilm fz_any fz_nil fz_emp fz_ptr fz_rp fz_ip fz_imp fz_agg fz_tup fz_ifc fz_fn fz_sl fzRow_row fz_so fzMap_mp fz_mp appR_row appN appX_nil appX_emp appX_so appS_some appT_some app_is bsD_some bsB_some bsA_some bs1_is bsZ0_some bsA0_some bs0_is src_sl srcR_row src_so src_str src_nil src_emp rowsOK_nil rowsOK_cons rowsOK_app

def known (k : Int) : Bool := k == 1 || (k == 3 || (k == 4 || (k == 5 || (k == 6 || (k == 7 || (k == 8 || (k == 9 || (k == 11 || k == 12))))))))
def holds (k : Int) : Bool := k == 9 || (k == 11 || k == 12)

theorem f70 (k : Int) : ev 70 [.v (.int .i64 k)] [] = some (.ret (.v (.bool (holds k))), []) := by
  refine ev_fn Try.func70 rfl rfl (Nat.le_of_ble_eq_true rfl) ?_
  cases e1 : (k == 9)
  · cases e2 : (k == 11)
    · simp [ann, reg, Try.f70, holds, e1, e2]
    · simp [ann, reg, Try.f70, holds, e1, e2]
  · simp [ann, reg, Try.f70, holds, e1]
end Go.Proofs.Th
/- THRIFT: its values, as' the machine holds them. -/
open Go Go.Ag
namespace Go.Proofs.Th

inductive Th where
  | mk (kind key elem i : Int) (text : List UInt8) (ids : List Int) (list : List Th)

def irows (l : List Int) : List (List AV) := l.map fun i => [.v (.int .i64 i)]
def spare7 : List AV := [.v (.int .i64 77), .v (.int .i64 0), .v (.int .i64 0), .v (.int .i64 0), .v (.string ByteArray.empty), .sl [] [], .sl [] []]
def sp1 (sp : Bool) : List (List AV) := if sp then [[.v (.int .i64 77)]] else []
def sp7 (sp : Bool) : List (List AV) := if sp then [spare7] else []
mutual
/-- The cells of a value; 'sp': with something behind each list. -/
def Th.cells (sp : Bool) : Th → List AV
  | .mk k y e i t ids l => [.v (.int .i64 k), .v (.int .i64 y), .v (.int .i64 e), .v (.int .i64 i), .v (.string (bstr t)), .sl (irows ids) (sp1 sp), .sl (trows sp l) (sp7 sp)]
def trows (sp : Bool) : List Th → List (List AV)
  | [] => []
  | x :: xs => x.cells sp :: trows sp xs
end
theorem trows_map (sp : Bool) : ∀ l, trows sp l = l.map (Th.cells sp)
  | [] => by simp [trows]
  | x :: xs => by simp [trows, trows_map sp xs]
theorem trows_len (sp : Bool) (l : List Th) : (trows sp l).length = l.length := by simp [trows_map]
theorem irows_len (l : List Int) : (irows l).length = l.length := by simp [irows]
theorem trows_get {sp : Bool} {l : List Th} {i : Nat} {x : Th} (h : l[i]? = some x) : (trows sp l)[i]? = some (x.cells sp) := by simp [trows_map, h]
theorem irows_get {l : List Int} {i : Nat} {x : Int} (h : l[i]? = some x) : (irows l)[i]? = some [.v (.int .i64 x)] := by simp [irows, h]
theorem cells_len (sp : Bool) (x : Th) : (x.cells sp).length = 7 := by cases x; simp [Th.cells]
theorem cells_ok (sp : Bool) (x : Th) : okCells (x.cells sp) = true := by cases x; simp [Th.cells, okCells, okCell, Value.oneCell']
theorem irows_lt (l : List Int) (n : Nat) : AV.ltss n (irows l) = true := by
  induction l with
  | nil => rfl
  | cons b l ih => simpa [irows, AV.ltss, AV.lts, AV.lt] using ih
theorem sp1_lt (sp : Bool) (n : Nat) : AV.ltss n (sp1 sp) = true := by cases sp <;> simp [sp1, AV.ltss, AV.lts, AV.lt]
theorem sp7_lt (sp : Bool) (n : Nat) : AV.ltss n (sp7 sp) = true := by cases sp <;> simp [sp7, spare7, AV.ltss, AV.lts, AV.lt]
mutual
theorem cells_lt (sp : Bool) (n : Nat) : ∀ x : Th, AV.lts n (x.cells sp) = true
  | .mk k y e i t ids l => by simp [Th.cells, AV.lts, AV.lt, irows_lt, sp1_lt, sp7_lt, trows_lt sp n l]
theorem trows_lt (sp : Bool) (n : Nat) : ∀ l : List Th, AV.ltss n (trows sp l) = true
  | [] => by simp [trows, AV.ltss]
  | x :: xs => by simp [trows, AV.ltss, cells_lt sp n x, trows_lt sp n xs]
end
theorem irows_ok (l : List Int) : rowsOK 1 (irows l) = true := by simp [rowsOK, irows, okCells, okCell, Value.oneCell']
theorem trows_ok (sp : Bool) (l : List Th) : rowsOK 7 (trows sp l) = true := by
  simp only [rowsOK, trows_map, List.all_map, List.all_eq_true]
  intro x _
  simp [cells_len, cells_ok]
theorem sp1_ok (sp : Bool) : rowsOK 1 (sp1 sp) = true := by cases sp <;> simp [sp1, rowsOK, okCells, okCell, Value.oneCell']
theorem sp7_ok (sp : Bool) : rowsOK 7 (sp7 sp) = true := by cases sp <;> simp [sp7, spare7, rowsOK, okCells, okCell, Value.oneCell']

theorem irows_frz (M : Mem) (b n : Nat) (l : List Int) : (irows l).map (fun r => r.map (frz M b n)) = irows l := by
  have h : ∀ x : Int, frz M b n (.v (.int .i64 x)) = .v (.int .i64 x) := by intro x; cases n <;> rfl
  simp [irows, h, Function.comp_def]
theorem frz_int (M : Mem) (b n : Nat) (k : IntKind) (x : Int) : frz M b n (.v (.int k x)) = .v (.int k x) := by cases n <;> rfl
theorem frz_str (M : Mem) (b n : Nat) (x : ByteArray) : frz M b n (.v (.string x)) = .v (.string x) := by cases n <;> rfl
theorem frz_bool (M : Mem) (b n : Nat) (x : Bool) : frz M b n (.v (.bool x)) = .v (.bool x) := by cases n <;> rfl
theorem sp1_frz (M : Mem) (b n : Nat) (sp : Bool) : (sp1 sp).map (fun r => r.map (frz M b n)) = sp1 sp := by cases sp <;> simp [sp1, frz_int]
theorem nil_frz (M : Mem) (b n : Nat) : frz M b n (.sl [] []) = .sl [] [] := by cases n <;> rfl
theorem sp7_frz (M : Mem) (b n : Nat) (sp : Bool) : (sp7 sp).map (fun r => r.map (frz M b n)) = sp7 sp := by cases sp <;> simp [sp7, spare7, frz_int, frz_str, nil_frz]
mutual
theorem cells_frz (M : Mem) (b : Nat) (sp : Bool) : ∀ (n : Nat) (x : Th), (x.cells sp).map (frz M b n) = x.cells sp
  | 0, x => by
    have : frz M b 0 = id := by funext a; rfl
    rw [this, List.map_id]
  | n + 1, .mk k y e i t ids l => by
    simp only [Th.cells, List.map_cons, List.map_nil, frz_int, frz_str]
    simp only [frz, irows_frz, sp1_frz, sp7_frz, trows_frz M b sp n l]
theorem trows_frz (M : Mem) (b : Nat) (sp : Bool) : ∀ (n : Nat) (l : List Th), (trows sp l).map (fun r => r.map (frz M b n)) = trows sp l
  | n, [] => by simp [trows]
  | n, x :: xs => by
    rw [trows, List.map_cons, cells_frz M b sp n x, trows_frz M b sp n xs]
end

theorem trows_ta (sp : Bool) (l : List Th) : (trows sp l).take l.length = trows sp l := List.take_of_length_le (by rw [trows_len]; exact Nat.le_refl _)
theorem trows_da (sp : Bool) (l : List Th) : (trows sp l).drop l.length = [] := List.drop_eq_nil_of_le (by rw [trows_len]; exact Nat.le_refl _)
theorem irows_ta (l : List Int) : (irows l).take l.length = irows l := List.take_of_length_le (by rw [irows_len]; exact Nat.le_refl _)
theorem irows_da (l : List Int) : (irows l).drop l.length = [] := List.drop_eq_nil_of_le (by rw [irows_len]; exact Nat.le_refl _)
theorem bRows_ta (l : List UInt8) : (bRows l).take l.length = bRows l := List.take_of_length_le (by rw [bRows_length]; exact Nat.le_refl _)
theorem bRows_da (l : List UInt8) : (bRows l).drop l.length = [] := List.drop_eq_nil_of_le (by rw [bRows_length]; exact Nat.le_refl _)

/-! ### Sizes as' machines have them -/
def i64 (x : Int) : Prop := -9223372036854775808 ≤ x ∧ x ≤ 9223372036854775807
def big : Nat := 140737488351232
mutual
/-- A value such as' a machine may hold. -/
def Th.ok : Th → Prop
  | .mk k y e i t ids l => i64 k ∧ i64 y ∧ i64 e ∧ i64 i ∧ t.length ≤ big ∧ ids.length * 8 ≤ big ∧ (∀ x ∈ ids, i64 x) ∧ l.length * 96 ≤ big ∧ oks l
def oks : List Th → Prop
  | [] => True
  | x :: xs => x.ok ∧ oks xs
end
theorem oks_mem : ∀ {l : List Th}, oks l → ∀ x ∈ l, x.ok
  | [], _, x, hx => by simp at hx
  | y :: ys, h, x, hx => by
    simp only [oks] at h
    simp only [List.mem_cons] at hx
    rcases hx with rfl | hx
    · exact h.1
    · exact oks_mem h.2 x hx
theorem oks_of {l : List Th} (h : ∀ x ∈ l, x.ok) : oks l := by
  induction l with
  | nil => trivial
  | cons x xs ih => exact ⟨h x (List.mem_cons_self ..), ih fun y hy => h y (List.mem_cons_of_mem _ hy)⟩

def Th.kind : Th → Int | .mk k _ _ _ _ _ _ => k
def Th.key : Th → Int | .mk _ k _ _ _ _ _ => k
def Th.elem : Th → Int | .mk _ _ k _ _ _ _ => k
def Th.i : Th → Int | .mk _ _ _ k _ _ _ => k
def Th.text : Th → List UInt8 | .mk _ _ _ _ k _ _ => k
def Th.ids : Th → List Int | .mk _ _ _ _ _ k _ => k
def Th.list : Th → List Th | .mk _ _ _ _ _ _ k => k

section
variable (sp : Bool) (x : Th)
theorem cells_0 : (x.cells sp)[0]? = some (.v (.int .i64 x.kind)) := by cases x; simp [Th.cells, Th.kind]
theorem cells_1 : (x.cells sp)[1]? = some (.v (.int .i64 x.key)) := by cases x; simp [Th.cells, Th.key]
theorem cells_2 : (x.cells sp)[2]? = some (.v (.int .i64 x.elem)) := by cases x; simp [Th.cells, Th.elem]
theorem cells_3 : (x.cells sp)[3]? = some (.v (.int .i64 x.i)) := by cases x; simp [Th.cells, Th.i]
theorem cells_4 : (x.cells sp)[4]? = some (.v (.string (bstr x.text))) := by cases x; simp [Th.cells, Th.text]
theorem cells_5 : (x.cells sp)[5]? = some (.sl (irows x.ids) (sp1 sp)) := by cases x; simp [Th.cells, Th.ids]
theorem cells_6 : (x.cells sp)[6]? = some (.sl (trows sp x.list) (sp7 sp)) := by cases x; simp [Th.cells, Th.list]
theorem cellg_0 (h : 0 < (x.cells sp).length) : (x.cells sp)[0]'h = (.v (.int .i64 x.kind)) := by have := cells_0 sp x; rw [List.getElem?_eq_getElem h] at this; exact Option.some.inj this
theorem cellg_1 (h : 1 < (x.cells sp).length) : (x.cells sp)[1]'h = (.v (.int .i64 x.key)) := by have := cells_1 sp x; rw [List.getElem?_eq_getElem h] at this; exact Option.some.inj this
theorem cellg_2 (h : 2 < (x.cells sp).length) : (x.cells sp)[2]'h = (.v (.int .i64 x.elem)) := by have := cells_2 sp x; rw [List.getElem?_eq_getElem h] at this; exact Option.some.inj this
theorem cellg_3 (h : 3 < (x.cells sp).length) : (x.cells sp)[3]'h = (.v (.int .i64 x.i)) := by have := cells_3 sp x; rw [List.getElem?_eq_getElem h] at this; exact Option.some.inj this
theorem cellg_4 (h : 4 < (x.cells sp).length) : (x.cells sp)[4]'h = (.v (.string (bstr x.text))) := by have := cells_4 sp x; rw [List.getElem?_eq_getElem h] at this; exact Option.some.inj this
theorem cellg_5 (h : 5 < (x.cells sp).length) : (x.cells sp)[5]'h = (.sl (irows x.ids) (sp1 sp)) := by have := cells_5 sp x; rw [List.getElem?_eq_getElem h] at this; exact Option.some.inj this
theorem cellg_6 (h : 6 < (x.cells sp).length) : (x.cells sp)[6]'h = (.sl (trows sp x.list) (sp7 sp)) := by have := cells_6 sp x; rw [List.getElem?_eq_getElem h] at this; exact Option.some.inj this
theorem cells_take : (x.cells sp).take 7 = x.cells sp := List.take_of_length_le (by rw [cells_len]; exact Nat.le_refl _)
theorem cells_keys : AV.keyss (x.cells sp) = [] := AV.keyss_of _ (cells_lt sp 0 x)
theorem cells_rens (π : Nat → Option Nat) : AV.rens π (x.cells sp) = some (x.cells sp) := AV.rens_of π _ (cells_lt sp 0 x)
theorem cells_is : x.cells sp = [.v (.int .i64 x.kind), .v (.int .i64 x.key), .v (.int .i64 x.elem), .v (.int .i64 x.i), .v (.string (bstr x.text)), .sl (irows x.ids) (sp1 sp), .sl (trows sp x.list) (sp7 sp)] := by cases x; simp [Th.cells, Th.kind, Th.key, Th.elem, Th.i, Th.text, Th.ids, Th.list]
end
theorem Th.ok_is {x : Th} (h : x.ok) : i64 x.kind ∧ i64 x.key ∧ i64 x.elem ∧ i64 x.i ∧ x.text.length ≤ 140737488351232 ∧ x.ids.length * 8 ≤ 140737488351232 ∧ (∀ y ∈ x.ids, i64 y) ∧ x.list.length * 96 ≤ 140737488351232 ∧ oks x.list := by
  cases x; simpa [Th.ok, big, Th.kind, Th.key, Th.elem, Th.i, Th.text, Th.ids, Th.list] using h
theorem list_lt (x : Th) {y : Th} (h : y ∈ x.list) : SizeOf.sizeOf y < SizeOf.sizeOf x := by
  cases x with | mk k y' e i t ids l =>
  have h : y ∈ l := h
  have := List.sizeOf_lt_of_mem h
  simp only [Th.mk.sizeOf_spec]
  omega
end Go.Proofs.Th
/- THRIFT: how great a value is, as' far as' some. -/
open Go Go.Ag
namespace Go.Proofs.Th
attribute [local simp] ec_skip ec_region ec_seq ec_cond ec_block ec_loop ec_exit ec_ret seqK_normal seqK_exit seqK_ret seqK_pan condK_true condK_false blockK_exit blockK_normal blockK_ret blockK_pan regionK_plain regionK_draw eo_nil eo_cons cutS_nil cutOf opK_is wantK_yes wantK_no stepK_ret stepK_pan endK_normal endK_ret endK_pan annotate headS wantedA evOp evOp1 evA Ag.get putT dstOK argsEnv retK resR resAll resOne constAV constCell Ctx.bss evLoad evStore AV.cells intOfAV AV.val AV.vals splice okCell okCells_nil okCells_cons finish AV.lt AV.lts AV.ltss putObj partOf restrT ltT ownOK bsOK bsOKs List.lookup_cons pr_bind pr_pure pr_guard_int pr_guard_str pr_guard_bool pr_add pr_sub pr_mul pr_eql pr_neq pr_lss pr_leq pr_gtr pr_geq pr_seql pr_sneq pr_not pr_neg pr_shl pr_shr pr_quo pr_rem pr_and pr_or pr_xor pr_conv pr_min2 pr_max2 undef callP plA plS plR plO nameP ARes.keys putObj callW callAt callKs inS outS backK reachW pickM renObjs AObj.ren AV.ren AV.rens renss renE posOf backM outK lokAt ARes.ren AV.keys AV.keyss objKeys evFieldAddr evIndexAddr evLen evFill List.range_succ Value.oneCell' evInsert mfind sameKey isKey AObj.lt Value.cells
attribute [local simp] cells_len cells_ok cells_lt trows_lt irows_lt sp1_lt sp7_lt irows_len trows_len cells_0 cells_1 cells_2 cells_3 cells_4 cells_5 cells_6 cellg_0 cellg_1 cellg_2 cellg_3 cellg_4 cellg_5 cellg_6 cells_take cells_keys cells_rens pr_lenstr bstr_size
attribute [local simp] look_mp look_mp2 look_imp look_imp2 lookV lookB intKeys cond_vint cond_vbool bits_i64 bits_u64 bits_u8 bits_i8 bits_i32 bits_u32
attribute [local simp] wrap64_in wrapu64_in wrapu8_in
attribute [local simp] fz_int fz_str fz_bool fz_float fz_nilp fz_tuple fz_nili fz_nilf fz_nilm fz_any fz_nil fz_emp fz_ptr fz_rp fz_ip fz_imp fz_agg fz_tup fz_ifc fz_fn fz_sl fzRow_row fz_so fzMap_mp fz_mp appR_row appN appX_nil appX_emp appX_so appS_some appT_some app_is bsD_some bsB_some bsA_some bs1_is bsZ0_some bsA0_some bs0_is src_sl srcR_row src_so src_str src_nil src_emp rowsOK_nil rowsOK_cons rowsOK_app
attribute [local simp] irows_frz trows_frz sp1_frz sp7_frz cells_frz irows_ok trows_ok sp1_ok sp7_ok bRows_map_frz bRows_ok bRows_lt bRows_length strRows_bstr
attribute [local simp] trows_ta trows_da irows_ta irows_da bRows_ta bRows_da

mutual
def sz : Th → Int → Int
  | .mk _ _ _ _ t ids l, left => szs l (1 + (t.length : Int) + (ids.length : Int)) left
def szs : List Th → Int → Int → Int
  | [], n, _ => n
  | x :: xs, n, left => if n ≤ left then szs xs (n + sz x (left - n)) left else n
end
theorem sz_is (x : Th) (left : Int) : sz x left = szs x.list (1 + (x.text.length : Int) + (x.ids.length : Int)) left := by cases x; simp [sz, Th.text, Th.ids, Th.list]
def C : Int := 281474976702465
mutual
theorem sz_bound : ∀ (x : Th) (left : Int), x.ok → 0 ≤ left → 1 ≤ sz x left ∧ sz x left ≤ left + C
  | .mk k y e i t ids l, left, h, h0 => by
    simp only [Th.ok, big] at h
    unfold sz
    refine szs_bound l _ left h.2.2.2.2.2.2.2.2 h0 (by omega) ?_
    unfold C
    omega
theorem szs_bound : ∀ (l : List Th) (n left : Int), oks l → 0 ≤ left → 1 ≤ n → n ≤ left + C → 1 ≤ szs l n left ∧ szs l n left ≤ left + C
  | [], n, left, _, _, h1, h2 => by simp [szs, h1, h2]
  | x :: xs, n, left, h, h0, h1, h2 => by
    unfold szs
    split
    · rename_i hle
      have := sz_bound x (left - n) h.1 (by omega)
      exact szs_bound xs _ left h.2 h0 (by omega) (by omega)
    · exact ⟨h1, h2⟩
end

theorem f9 (sp : Bool) (N : Nat) : ∀ (x : Th) (left : Int), SizeOf.sizeOf x < N → x.ok → 0 ≤ left → left ≤ 3000 → ev 9 [.agg (x.cells sp), .v (.int .i64 left)] [] = some (.ret (.v (.int .i64 (sz x left))), []) := by
  induction N with
  | zero => intro x left h; omega
  | succ N ih =>
    intro x left hN hok h0 h3
    refine ev_fn Try.func9 rfl rfl (Nat.le_of_ble_eq_true rfl) ?_
    obtain ⟨_, _, _, _, b1, b2, _, b3, b4⟩ := Th.ok_is hok
    have w1 : IntKind.i64.wrap (1 + (x.text.length : Int)) = 1 + (x.text.length : Int) := wrap64_in (by omega) (by omega)
    have w2 : IntKind.i64.wrap (1 + (x.text.length : Int) + (x.ids.length : Int)) = 1 + (x.text.length : Int) + (x.ids.length : Int) := wrap64_in (by omega) (by omega)
    rw [sz_is]
    simp [ann, reg, Try.f9, w1, w2]
    generalize hres : runLoop _ _ _ _ = res
    unfold runLoop at hres
    generalize hf : evCode _ _ _ = f at hres
    have key : ∀ (xs : List Th) (j : Nat) (n : Int) (T : Env), x.list.drop j = xs → 1 ≤ n → n ≤ left + C → T.lookup 5 = some (.v (.int .i64 n)) → T.lookup 6 = some (.v (.int .i64 (j : Int))) → T.lookup 2 = some (.ptr 0 0) → T.lookup 1 = some (.v (.int .i64 left)) →
        ∃ T', lpW f ⟨T, [.cells (x.cells sp)]⟩ = some (.exit 0, ⟨T', [.cells (x.cells sp)]⟩) ∧ T'.lookup 5 = some (.v (.int .i64 (szs xs n left))) := by
      intro xs
      induction xs with
      | nil =>
        intro j n T hd h1 h2 t5 t6 t2 t1
        have hj : x.list.length ≤ j := List.drop_eq_nil_iff.1 hd
        have hlt : ¬ (j : Int) < (x.list.length : Int) := by omega
        refine ⟨_, lpW_once (by rw [← hf]; simp [ann, reg, t5, t6, t2, t1, hlt]; (first | rfl | exact ⟨rfl, rfl⟩ | exact ⟨rfl, rfl, rfl⟩)) (by simp), by simp [t5, szs]⟩
      | cons z zs ihz =>
        intro j n T hd h1 h2 t5 t6 t2 t1
        have hz : x.list[j]? = some z := by
          have := congrArg (fun l => l[0]?) hd
          simpa [List.getElem?_drop] using this
        have hj : j < x.list.length := (List.getElem?_eq_some_iff.1 hz).1
        have hlt : (j : Int) < (x.list.length : Int) := by omega
        by_cases hle : n ≤ left
        · have hmem := List.mem_of_getElem? hz
          have hzok := oks_mem b4 z hmem
          have hcall := ih z (left - n) (by have := list_lt x hmem; omega) hzok (by omega) (by omega)
          have hzb := sz_bound z (left - n) hzok (by omega)
          have e1 : IntKind.i64.wrap (left - n) = left - n := wrap64_in (by omega) (by omega)
          have e2 : IntKind.i64.wrap (n + sz z (left - n)) = n + sz z (left - n) := wrap64_in (by omega) (by unfold C at hzb; omega)
          have e3 : IntKind.i64.wrap ((j : Int) + 1) = ((j + 1 : Nat) : Int) := by rw [wrap64_in (by omega) (by omega)]; rfl
          have hd' : x.list.drop (j + 1) = zs := by rw [← List.drop_drop, hd]; rfl
          obtain ⟨T1, q0, q5, q6, q2, q1⟩ : ∃ T1, f ⟨T, [.cells (x.cells sp)]⟩ = some (.normal, ⟨T1, [.cells (x.cells sp)]⟩) ∧ T1.lookup 5 = some (.v (.int .i64 (n + sz z (left - n)))) ∧ T1.lookup 6 = some (.v (.int .i64 ((j + 1 : Nat) : Int))) ∧ T1.lookup 2 = some (.ptr 0 0) ∧ T1.lookup 1 = some (.v (.int .i64 left)) :=
            ⟨_, by rw [← hf]; simp [ann, reg, t5, t6, t2, t1, hlt, hle, e1, e2, e3, hcall, trows_get hz]; (first | rfl | exact ⟨rfl, rfl⟩ | exact ⟨rfl, rfl, rfl⟩), by simp, by simp, by simp [t2], by simp [t1]⟩
          obtain ⟨T', r1, r2⟩ := ihz (j + 1) (n + sz z (left - n)) T1 hd' (by omega) (by omega) q5 q6 q2 q1
          exact ⟨T', lpW_first q0 r1, by rw [r2]; simp [szs, hle]⟩
        · refine ⟨_, lpW_once (by rw [← hf]; simp [ann, reg, t5, t6, t2, t1, hlt, hle]; (first | rfl | exact ⟨rfl, rfl⟩ | exact ⟨rfl, rfl, rfl⟩)) (by simp), by simp [t5, szs, hle]⟩
    obtain ⟨T', h1, h2⟩ : ∃ T', res = some (.exit 0, ⟨T', [.cells (x.cells sp)]⟩) ∧ T'.lookup 5 = some (.v (.int .i64 (szs x.list (1 + (x.text.length : Int) + (x.ids.length : Int)) left))) := by
      rw [← hres]
      exact key x.list 0 _ _ (by simp) (by omega) (by unfold C; omega) (by simp) (by simp) (by simp) (by simp)
    subst h1
    simp [ann, reg, h2]
end Go.Proofs.Th
/- THRIFT: kinds, numbers, lists of a kind. -/
open Go Go.Ag
namespace Go.Proofs.Th
attribute [local simp] ec_skip ec_region ec_seq ec_cond ec_block ec_loop ec_exit ec_ret seqK_normal seqK_exit seqK_ret seqK_pan condK_true condK_false blockK_exit blockK_normal blockK_ret blockK_pan regionK_plain regionK_draw eo_nil eo_cons cutS_nil cutOf opK_is wantK_yes wantK_no stepK_ret stepK_pan endK_normal endK_ret endK_pan annotate headS wantedA evOp evOp1 evA Ag.get putT dstOK argsEnv retK resR resAll resOne constAV constCell Ctx.bss evLoad evStore AV.cells intOfAV AV.val AV.vals splice okCell okCells_nil okCells_cons finish AV.lt AV.lts AV.ltss putObj partOf restrT ltT ownOK bsOK bsOKs List.lookup_cons pr_bind pr_pure pr_guard_int pr_guard_str pr_guard_bool pr_add pr_sub pr_mul pr_eql pr_neq pr_lss pr_leq pr_gtr pr_geq pr_seql pr_sneq pr_not pr_neg pr_shl pr_shr pr_quo pr_rem pr_and pr_or pr_xor pr_conv pr_min2 pr_max2 undef callP plA plS plR plO nameP ARes.keys putObj callW callAt callKs inS outS backK reachW pickM renObjs AObj.ren AV.ren AV.rens renss renE posOf backM outK lokAt ARes.ren AV.keys AV.keyss objKeys evFieldAddr evIndexAddr evLen evFill List.range_succ Value.oneCell' evInsert mfind sameKey isKey AObj.lt Value.cells
attribute [local simp] cells_len cells_ok cells_lt trows_lt irows_lt sp1_lt sp7_lt irows_len trows_len cells_0 cells_1 cells_2 cells_3 cells_4 cells_5 cells_6 cellg_0 cellg_1 cellg_2 cellg_3 cellg_4 cellg_5 cellg_6 cells_take cells_keys cells_rens pr_lenstr bstr_size
attribute [local simp] look_mp look_mp2 look_imp look_imp2 lookV lookB intKeys cond_vint cond_vbool bits_i64 bits_u64 bits_u8 bits_i8 bits_i32 bits_u32
attribute [local simp] wrap64_in wrapu64_in wrapu8_in
attribute [local simp] fz_int fz_str fz_bool fz_float fz_nilp fz_tuple fz_nili fz_nilf fz_nilm fz_any fz_nil fz_emp fz_ptr fz_rp fz_ip fz_imp fz_agg fz_tup fz_ifc fz_fn fz_sl fzRow_row fz_so fzMap_mp fz_mp appR_row appN appX_nil appX_emp appX_so appS_some appT_some app_is bsD_some bsB_some bsA_some bs1_is bsZ0_some bsA0_some bs0_is src_sl srcR_row src_so src_str src_nil src_emp rowsOK_nil rowsOK_cons rowsOK_app
attribute [local simp] irows_frz trows_frz sp1_frz sp7_frz cells_frz irows_ok trows_ok sp1_ok sp7_ok bRows_map_frz bRows_ok bRows_lt bRows_length strRows_bstr
attribute [local simp] trows_ta trows_da irows_ta irows_da bRows_ta bRows_da

theorem f64 (k : Int) : ev 64 [.v (.int .i64 k)] [] = some (.ret (.v (.bool (known k))), []) := by
  refine ev_fn Try.func64 rfl rfl (Nat.le_of_ble_eq_true rfl) ?_
  simp [ann, reg, Try.f64, f70]
  repeat' (first | ((first | rw [wantK_nm] | rw [wantK_m] | rw [condK_nm] | rw [condK_m] | rw [fWantK_nm] | rw [fWantK_m]); split) | simp [ann, reg, f70, known, holds, *])

def pbits (k : Int) : Int := bif k == 1 then 1 else bif k == 3 then 8 else bif k == 4 then 16 else bif k == 5 then 32 else bif k == 6 then 64 else bif k == 7 then 64 else 0
theorem f51 (k : Int) : ev 51 [.v (.int .i64 k)] [] = some (.ret (.v (.int .i64 (pbits k))), []) := by
  refine ev_fn Try.func51 rfl rfl (Nat.le_of_ble_eq_true rfl) ?_
  simp [ann, reg, Try.f51, pbits]
def pfits (k n : Int) : Bool := if pbits k = 0 then n == 0 else if pbits k = 1 then n.fdiv 2 == 0 else n.fdiv (2 ^ (pbits k - 1).toNat) == 0 || n.fdiv (2 ^ (pbits k - 1).toNat) == -1
theorem pbits_cases (k : Int) : pbits k = 0 ∨ pbits k = 1 ∨ pbits k = 8 ∨ pbits k = 16 ∨ pbits k = 32 ∨ pbits k = 64 := by
  unfold pbits
  cases (k == 1) <;> cases (k == 3) <;> cases (k == 4) <;> cases (k == 5) <;> cases (k == 6) <;> cases (k == 7) <;> simp
theorem f65 (k n : Int) : ev 65 [.v (.int .i64 k), .v (.int .i64 n)] [] = some (.ret (.v (.bool (pfits k n))), []) := by
  refine ev_fn Try.func65 rfl rfl (Nat.le_of_ble_eq_true rfl) ?_
  unfold pfits
  rcases pbits_cases k with h | h | h | h | h | h <;> simp [ann, reg, Try.f65, f51, h] <;> repeat' (first | ((first | rw [wantK_nm] | rw [wantK_m] | rw [condK_nm] | rw [condK_m] | rw [fWantK_nm] | rw [fWantK_m]); split) | simp [ann, reg, *])
theorem f80 (sp : Bool) (x : Th) (k : Int) : ev 80 [.agg (x.cells sp), .ptr 0 0] [.cells [.v (.int .i64 k)]] = some (.ret (.v (.bool (x.kind != k))), [.cells [.v (.int .i64 k)]]) := by
  refine ev_fn Try.func80 rfl rfl (Nat.le_of_ble_eq_true rfl) ?_
  simp [ann, reg, Try.f80]
theorem f66 : ev 66 [] [] = some (.ret (.imp [.int .i64 9, .int .i64 11, .int .i64 12] [.fn (.func 74) [] [], .fn (.func 76) [] [], .fn (.func 78) [] []]), []) := by
  refine ev_fn Try.func66 rfl rfl (Nat.le_of_ble_eq_true rfl) ?_
  simp [ann, reg, Try.f66]
end Go.Proofs.Th
/- THRIFT: searching lists; every other one of a list. -/
open Go Go.Ag
namespace Go.Proofs.Th
attribute [local simp] ec_skip ec_region ec_seq ec_cond ec_block ec_loop ec_exit ec_ret seqK_normal seqK_exit seqK_ret seqK_pan condK_true condK_false blockK_exit blockK_normal blockK_ret blockK_pan regionK_plain regionK_draw eo_nil eo_cons cutS_nil cutOf opK_is wantK_yes wantK_no stepK_ret stepK_pan endK_normal endK_ret endK_pan annotate headS wantedA evOp evOp1 evA Ag.get putT dstOK argsEnv retK resR resAll resOne constAV constCell Ctx.bss evLoad evStore AV.cells intOfAV AV.val AV.vals splice okCell okCells_nil okCells_cons finish AV.lt AV.lts AV.ltss putObj partOf restrT ltT ownOK bsOK bsOKs List.lookup_cons pr_bind pr_pure pr_guard_int pr_guard_str pr_guard_bool pr_add pr_sub pr_mul pr_eql pr_neq pr_lss pr_leq pr_gtr pr_geq pr_seql pr_sneq pr_not pr_neg pr_shl pr_shr pr_quo pr_rem pr_and pr_or pr_xor pr_conv pr_min2 pr_max2 undef callP plA plS plR plO nameP ARes.keys putObj callW callAt callKs inS outS backK reachW pickM renObjs AObj.ren AV.ren AV.rens renss renE posOf backM outK lokAt ARes.ren AV.keys AV.keyss objKeys evFieldAddr evIndexAddr evLen evFill List.range_succ Value.oneCell' evInsert mfind sameKey isKey AObj.lt Value.cells
attribute [local simp] cells_len cells_ok cells_lt trows_lt irows_lt sp1_lt sp7_lt irows_len trows_len cells_0 cells_1 cells_2 cells_3 cells_4 cells_5 cells_6 cellg_0 cellg_1 cellg_2 cellg_3 cellg_4 cellg_5 cellg_6 cells_take cells_keys cells_rens pr_lenstr bstr_size
attribute [local simp] look_mp look_mp2 look_imp look_imp2 lookV lookB intKeys cond_vint cond_vbool bits_i64 bits_u64 bits_u8 bits_i8 bits_i32 bits_u32
attribute [local simp] wrap64_in wrapu64_in wrapu8_in
attribute [local simp] fz_int fz_str fz_bool fz_float fz_nilp fz_tuple fz_nili fz_nilf fz_nilm fz_any fz_nil fz_emp fz_ptr fz_rp fz_ip fz_imp fz_agg fz_tup fz_ifc fz_fn fz_sl fzRow_row fz_so fzMap_mp fz_mp appR_row appN appX_nil appX_emp appX_so appS_some appT_some app_is bsD_some bsB_some bsA_some bs1_is bsZ0_some bsA0_some bs0_is src_sl srcR_row src_so src_str src_nil src_emp rowsOK_nil rowsOK_cons rowsOK_app
attribute [local simp] irows_frz trows_frz sp1_frz sp7_frz cells_frz irows_ok trows_ok sp1_ok sp7_ok bRows_map_frz bRows_ok bRows_lt bRows_length strRows_bstr
attribute [local simp] trows_ta trows_da irows_ta irows_da bRows_ta bRows_da

theorem drop_get {α : Type} {l : List α} {j : Nat} {z : α} {zs : List α} (hd : l.drop j = z :: zs) : l[j]? = some z ∧ j < l.length ∧ l.drop (j + 1) = zs := by
  have hz : l[j]? = some z := by
    have := congrArg (fun l => l[0]?) hd
    simpa [List.getElem?_drop] using this
  exact ⟨hz, (List.getElem?_eq_some_iff.1 hz).1, by rw [← List.drop_drop, hd]; rfl⟩

def pidx (p : Th → Bool) : List Th → Int → Int
  | [], _ => -1
  | x :: xs, i => bif p x then i else pidx p xs (i + 1)
theorem pidx_neg (p : Th → Bool) : ∀ (l : List Th) (i : Int), 0 ≤ i → (decide (0 ≤ pidx p l i)) = l.any p
  | [], i, _ => by simp [pidx]
  | x :: xs, i, h => by
    unfold pidx
    cases hp : p x with
    | true => simp [hp, h]
    | false => simp [hp, pidx_neg p xs (i + 1) (by omega)]

/-- A function of values that a captured cell says more of. -/
def Says (g : FuncId) (sp : Bool) (c : List AV) (p : Th → Bool) (l : List Th) : Prop := ∀ x ∈ l, ev g [.agg (x.cells sp), .ptr 0 0] [.cells c] = some (.ret (.v (.bool (p x))), [.cells c])

theorem f79 {g : FuncId} {sp : Bool} {s : List (List AV)} {k : Int} {p : Th → Bool} {l : List Th} (hl : l.length ≤ 140737488351232) (hs : AV.ltss 0 s = true) (hp : Says g sp [.v (.int .i64 k)] p l) :
    ev 79 [.sl (trows sp l) s, .fn (.func g) [] [.ptr 0 0]] [.cells [.v (.int .i64 k)]] = some (.ret (.v (.int .i64 (pidx p l 0))), [.cells [.v (.int .i64 k)]]) := by
  refine ev_fn Try.func79 rfl rfl (Nat.le_of_ble_eq_true rfl) ?_
  simp [ann, reg, Try.f79]
  generalize hres : runLoop _ _ _ _ = res
  unfold runLoop at hres
  generalize hf : evCode _ _ _ = f at hres
  have key : ∀ (xs : List Th) (j : Nat) (T : Env), l.drop j = xs → T.lookup 0 = some (.sl (trows sp l) s) → T.lookup 1 = some (.fn (.func g) [] [.ptr 0 0]) → T.lookup 7 = some (.v (.int .i64 (l.length : Int))) → T.lookup 8 = some (.v (.int .i64 (j : Int))) →
      ∃ T' e, lpW f ⟨T, [.cells [.v (.int .i64 k)]]⟩ = some (e, ⟨T', [.cells [.v (.int .i64 k)]]⟩) ∧ ((e = .exit 0 ∧ pidx p xs j = -1) ∨ (e = .ret ∧ T'.lookup 4 = some (.v (.int .i64 (pidx p xs j))))) := by
    intro xs
    induction xs with
    | nil =>
      intro j T hd t0 t1 t7 t8
      have hj : l.length ≤ j := List.drop_eq_nil_iff.1 hd
      have hlt : ¬ (j : Int) < (l.length : Int) := by omega
      exact ⟨_, _, lpW_once (by rw [← hf]; simp [ann, reg, t0, t1, t7, t8, hlt]; (first | rfl | exact ⟨rfl, rfl⟩ | exact ⟨rfl, rfl, rfl⟩)) (by simp), .inl ⟨rfl, by simp [pidx]⟩⟩
    | cons z zs ih =>
      intro j T hd t0 t1 t7 t8
      obtain ⟨hz, hj, hd'⟩ := drop_get hd
      have hlt : (j : Int) < (l.length : Int) := by omega
      have hcall := hp z (List.mem_of_getElem? hz)
      have e3 : IntKind.i64.wrap ((j : Int) + 1) = ((j + 1 : Nat) : Int) := by rw [wrap64_in (by omega) (by omega)]; rfl
      cases hb : p z with
      | true =>
        exact ⟨_, _, lpW_once (by rw [← hf]; simp [ann, reg, t0, t1, t7, t8, hlt, trows_get hz, hcall, hb]; (first | rfl | exact ⟨rfl, rfl⟩ | exact ⟨rfl, rfl, rfl⟩)) (by simp), .inr ⟨rfl, by simp [pidx, hb]⟩⟩
      | false =>
        obtain ⟨T1, q, q0, q1, q7, q8⟩ : ∃ T1, f ⟨T, [.cells [.v (.int .i64 k)]]⟩ = some (.normal, ⟨T1, [.cells [.v (.int .i64 k)]]⟩) ∧ T1.lookup 0 = some (.sl (trows sp l) s) ∧ T1.lookup 1 = some (.fn (.func g) [] [.ptr 0 0]) ∧ T1.lookup 7 = some (.v (.int .i64 (l.length : Int))) ∧ T1.lookup 8 = some (.v (.int .i64 ((j + 1 : Nat) : Int))) :=
          ⟨_, by rw [← hf]; simp [ann, reg, t0, t1, t7, t8, hlt, trows_get hz, hcall, hb, e3]; (first | rfl | exact ⟨rfl, rfl⟩ | exact ⟨rfl, rfl, rfl⟩), by simp [t0], by simp [t1], by simp [t7], by simp⟩
        obtain ⟨T', e, r1, r2⟩ := ih (j + 1) T1 hd' q0 q1 q7 q8
        refine ⟨T', e, lpW_first q r1, ?_⟩
        have : pidx p (z :: zs) j = pidx p zs ((j + 1 : Nat) : Int) := by simp [pidx, hb]
        rw [this]; exact r2
  obtain ⟨T', e, h1, h2⟩ : ∃ T' e, res = some (e, ⟨T', [.cells [.v (.int .i64 k)]]⟩) ∧ ((e = .exit 0 ∧ pidx p l (0 : Nat) = -1) ∨ (e = .ret ∧ T'.lookup 4 = some (.v (.int .i64 (pidx p l (0 : Nat)))))) := by
    rw [← hres]
    exact key l 0 _ (by simp) (by simp) (by simp) (by simp) (by simp)
  subst h1
  rcases h2 with ⟨rfl, h2⟩ | ⟨rfl, h2⟩
  · have h2' : pidx p l 0 = -1 := h2
    simp [ann, reg, h2']
  · have h2' : T'.lookup 4 = some (.v (.int .i64 (pidx p l 0))) := h2
    simp [ann, reg, h2']

theorem f67 {g : FuncId} {sp : Bool} {s : List (List AV)} {k : Int} {p : Th → Bool} {l : List Th} (hl : l.length ≤ 140737488351232) (hs : AV.ltss 0 s = true) (hp : Says g sp [.v (.int .i64 k)] p l) :
    ev 67 [.sl (trows sp l) s, .fn (.func g) [] [.ptr 0 0]] [.cells [.v (.int .i64 k)]] = some (.ret (.v (.bool (l.any p))), [.cells [.v (.int .i64 k)]]) := by
  refine ev_fn Try.func67 rfl rfl (Nat.le_of_ble_eq_true rfl) ?_
  have h := f79 hl hs hp
  have h2 := pidx_neg p l 0 (by omega)
  simp [ann, reg, Try.f67, h, hs, h2]

def allK (k : Int) (l : List Th) : Bool := l.all fun x => x.kind == k
theorem f75 {sp : Bool} {s : List (List AV)} {k : Int} {l : List Th} (hl : l.length ≤ 140737488351232) (hs : AV.ltss 0 s = true) : ev 75 [.sl (trows sp l) s, .v (.int .i64 k)] [] = some (.ret (.v (.bool (allK k l))), []) := by
  refine ev_fn Try.func75 rfl rfl (Nat.le_of_ble_eq_true rfl) ?_
  have h := f67 (g := 80) (p := fun x => x.kind != k) hl hs (fun x _ => f80 sp x k)
  have e : (!l.any fun x => x.kind != k) = allK k l := by
    simp only [allK, List.not_any_eq_all_not]
    congr 1
    funext x
    simp [bne]
  simp [ann, reg, Try.f75, h, hs, e]
end Go.Proofs.Th
/- THRIFT: what may be. -/
open Go Go.Ag
namespace Go.Proofs.Th
attribute [local simp] ec_skip ec_region ec_seq ec_cond ec_block ec_loop ec_exit ec_ret seqK_normal seqK_exit seqK_ret seqK_pan condK_true condK_false blockK_exit blockK_normal blockK_ret blockK_pan regionK_plain regionK_draw eo_nil eo_cons cutS_nil cutOf opK_is wantK_yes wantK_no stepK_ret stepK_pan endK_normal endK_ret endK_pan annotate headS wantedA evOp evOp1 evA Ag.get putT dstOK argsEnv retK resR resAll resOne constAV constCell Ctx.bss evLoad evStore AV.cells intOfAV AV.val AV.vals splice okCell okCells_nil okCells_cons finish AV.lt AV.lts AV.ltss putObj partOf restrT ltT ownOK bsOK bsOKs List.lookup_cons pr_bind pr_pure pr_guard_int pr_guard_str pr_guard_bool pr_add pr_sub pr_mul pr_eql pr_neq pr_lss pr_leq pr_gtr pr_geq pr_seql pr_sneq pr_not pr_neg pr_shl pr_shr pr_quo pr_rem pr_and pr_or pr_xor pr_conv pr_min2 pr_max2 undef callP plA plS plR plO nameP ARes.keys putObj callW callAt callKs inS outS backK reachW pickM renObjs AObj.ren AV.ren AV.rens renss renE posOf backM outK lokAt ARes.ren AV.keys AV.keyss objKeys evFieldAddr evIndexAddr evLen evFill List.range_succ Value.oneCell' evInsert mfind sameKey isKey AObj.lt Value.cells
attribute [local simp] cells_len cells_ok cells_lt trows_lt irows_lt sp1_lt sp7_lt irows_len trows_len cells_0 cells_1 cells_2 cells_3 cells_4 cells_5 cells_6 cellg_0 cellg_1 cellg_2 cellg_3 cellg_4 cellg_5 cellg_6 cells_take cells_keys cells_rens pr_lenstr bstr_size
attribute [local simp] look_mp look_mp2 look_imp look_imp2 lookV lookB intKeys cond_vint cond_vbool bits_i64 bits_u64 bits_u8 bits_i8 bits_i32 bits_u32
attribute [local simp] wrap64_in wrapu64_in wrapu8_in
attribute [local simp] fz_int fz_str fz_bool fz_float fz_nilp fz_tuple fz_nili fz_nilf fz_nilm fz_any fz_nil fz_emp fz_ptr fz_rp fz_ip fz_imp fz_agg fz_tup fz_ifc fz_fn fz_sl fzRow_row fz_so fzMap_mp fz_mp appR_row appN appX_nil appX_emp appX_so appS_some appT_some app_is bsD_some bsB_some bsA_some bs1_is bsZ0_some bsA0_some bs0_is src_sl srcR_row src_so src_str src_nil src_emp rowsOK_nil rowsOK_cons rowsOK_app
attribute [local simp] irows_frz trows_frz sp1_frz sp7_frz cells_frz irows_ok trows_ok sp1_ok sp7_ok bRows_map_frz bRows_ok bRows_lt bRows_length strRows_bstr
attribute [local simp] trows_ta trows_da irows_ta irows_da bRows_ta bRows_da

def evens : List Th → List Th
  | [] => []
  | [x] => [x]
  | x :: _ :: r => x :: evens r

theorem trows_append (sp : Bool) (a b : List Th) : trows sp (a ++ b) = trows sp a ++ trows sp b := by simp [trows_map]
theorem trows_one (sp : Bool) (x : Th) : trows sp [x] = [x.cells sp] := by simp [trows]

theorem f77 {sp : Bool} {s : List (List AV)} {l : List Th} (fr : Nat) (hl : l.length * 96 ≤ 140737488351232) (hs : AV.ltss 0 s = true) (hf0 : fr ≤ 1) : ev 77 [.sl (trows sp l) s, .v (.int .i64 (fr : Int))] [] = some (.ret (.sl (trows sp (evens (l.drop fr))) []), []) := by
  refine ev_fn Try.func77 rfl rfl (Nat.le_of_ble_eq_true rfl) ?_
  simp [ann, reg, Try.f77, nilT, isNil]
  generalize hres : runLoop _ _ _ _ = res
  unfold runLoop at hres
  generalize hf : evCode _ _ _ = f at hres
  have key : ∀ (n : Nat) (xs : List Th) (j ver : Nat) (acc : List Th) (ex : Mem) (T : Env), xs.length ≤ n → l.drop j = xs → acc.length ≤ j → j ≤ l.length + 1 → T.lookup 0 = some (.sl (trows sp l) s) → T.lookup 5 = some (.so 0 ver 0 acc.length) → T.lookup 6 = some (.v (.int .i64 (j : Int))) →
      ∃ T' ver', lpW f ⟨T, .row ver 7 (trows sp acc) :: ex⟩ = some (.exit 0, ⟨T', [.row ver' 7 (trows sp (acc ++ evens xs))]⟩) ∧ T'.lookup 5 = some (.so 0 ver' 0 (acc ++ evens xs).length) := by
    intro n
    induction n with
    | zero =>
      intro xs j ver acc ex T hn hd ha hjl t0 t5 t6
      have hx : xs = [] := List.length_eq_zero_iff.1 (by omega)
      subst hx
      have hj : l.length ≤ j := List.drop_eq_nil_iff.1 hd
      have hlt : ¬ (j : Int) < (l.length : Int) := by omega
      exact ⟨_, ver, lpW_once (by rw [← hf]; simp [ann, reg, t0, t5, t6, hlt, hs, ltss_up, evens]; (first | rfl | exact ⟨rfl, rfl⟩ | exact ⟨rfl, rfl, rfl⟩)) (by simp), by simp [evens]⟩
    | succ n ih =>
      intro xs j ver acc ex T hn hd ha hjl t0 t5 t6
      cases xs with
      | nil =>
        have hj : l.length ≤ j := List.drop_eq_nil_iff.1 hd
        have hlt : ¬ (j : Int) < (l.length : Int) := by omega
        exact ⟨_, ver, lpW_once (by rw [← hf]; simp [ann, reg, t0, t5, t6, hlt, hs, ltss_up, evens]; (first | rfl | exact ⟨rfl, rfl⟩ | exact ⟨rfl, rfl, rfl⟩)) (by simp), by simp [evens]⟩
      | cons z zs =>
        obtain ⟨hz, hj, hd'⟩ := drop_get hd
        have hlt : (j : Int) < (l.length : Int) := by omega
        have e3 : IntKind.i64.wrap ((j : Int) + 2) = ((j + 2 : Nat) : Int) := by rw [wrap64_in (by omega) (by omega)]; rfl
        have hb : (acc.length + 1) * 96 ≤ 140737488355328 := by omega
        obtain ⟨T1, M1, q, q0, q5, q6⟩ : ∃ T1 M1, f ⟨T, .row ver 7 (trows sp acc) :: ex⟩ = some (.normal, ⟨T1, .row (ver + 1) 7 (trows sp (acc ++ [z])) :: M1⟩) ∧ T1.lookup 0 = some (.sl (trows sp l) s) ∧ T1.lookup 5 = some (.so 0 (ver + 1) 0 (acc ++ [z]).length) ∧ T1.lookup 6 = some (.v (.int .i64 ((j + 2 : Nat) : Int))) :=
          ⟨_, _, by rw [← hf]; simp [ann, reg, t0, t5, t6, hlt, hs, ltss_up, trows_get hz, e3, hb, trows_append, trows_one]; (first | rfl | exact ⟨rfl, rfl⟩ | exact ⟨rfl, rfl, rfl⟩), by simp, by simp, by simp⟩
        obtain ⟨T', ver', r1, r2⟩ := ih (zs.drop 1) (j + 2) (ver + 1) (acc ++ [z]) M1 T1 (by simp at hn ⊢; omega) (by rw [← hd', List.drop_drop]) (by simp; omega) (by omega) q0 q5 q6
        have e : acc ++ [z] ++ evens (zs.drop 1) = acc ++ evens (z :: zs) := by
          cases zs <;> simp [evens]
        rw [e] at r1 r2
        exact ⟨T', ver', lpW_first q r1, r2⟩
  obtain ⟨T', ver', h1, h2⟩ : ∃ T' ver', res = some (.exit 0, ⟨T', [.row ver' 7 (trows sp ([] ++ evens (l.drop fr)))]⟩) ∧ T'.lookup 5 = some (.so 0 ver' 0 ([] ++ evens (l.drop fr)).length) := by
    rw [← hres]
    exact key _ _ fr 0 [] [] _ (Nat.le_refl _) rfl (by simp) (by omega) (by simp) (by simp) (by simp)
  subst h1
  simp only [List.nil_append] at h2
  simp [ann, reg, h2]
end Go.Proofs.Th
/- THRIFT: what may be, by the program. -/
open Go Go.Ag
namespace Go.Proofs.Th
attribute [local simp] ec_skip ec_region ec_seq ec_cond ec_block ec_loop ec_exit ec_ret seqK_normal seqK_exit seqK_ret seqK_pan condK_true condK_false blockK_exit blockK_normal blockK_ret blockK_pan regionK_plain regionK_draw eo_nil eo_cons cutS_nil cutOf opK_is wantK_yes wantK_no stepK_ret stepK_pan endK_normal endK_ret endK_pan annotate headS wantedA evOp evOp1 evA Ag.get putT dstOK argsEnv retK resR resAll resOne constAV constCell Ctx.bss evLoad evStore AV.cells intOfAV AV.val AV.vals splice okCell okCells_nil okCells_cons finish AV.lt AV.lts AV.ltss putObj partOf restrT ltT ownOK bsOK bsOKs List.lookup_cons pr_bind pr_pure pr_guard_int pr_guard_str pr_guard_bool pr_add pr_sub pr_mul pr_eql pr_neq pr_lss pr_leq pr_gtr pr_geq pr_seql pr_sneq pr_not pr_neg pr_shl pr_shr pr_quo pr_rem pr_and pr_or pr_xor pr_conv pr_min2 pr_max2 undef callP plA plS plR plO nameP ARes.keys putObj callW callAt callKs inS outS backK reachW pickM renObjs AObj.ren AV.ren AV.rens renss renE posOf backM outK lokAt ARes.ren AV.keys AV.keyss objKeys evFieldAddr evIndexAddr evLen evFill List.range_succ Value.oneCell' evInsert mfind sameKey isKey AObj.lt Value.cells
attribute [local simp] cells_len cells_ok cells_lt trows_lt irows_lt sp1_lt sp7_lt irows_len trows_len cells_0 cells_1 cells_2 cells_3 cells_4 cells_5 cells_6 cellg_0 cellg_1 cellg_2 cellg_3 cellg_4 cellg_5 cellg_6 cells_take cells_keys cells_rens pr_lenstr bstr_size
attribute [local simp] look_mp look_mp2 look_imp look_imp2 lookV lookB intKeys cond_vint cond_vbool bits_i64 bits_u64 bits_u8 bits_i8 bits_i32 bits_u32
attribute [local simp] wrap64_in wrapu64_in wrapu8_in
attribute [local simp] fz_int fz_str fz_bool fz_float fz_nilp fz_tuple fz_nili fz_nilf fz_nilm fz_any fz_nil fz_emp fz_ptr fz_rp fz_ip fz_imp fz_agg fz_tup fz_ifc fz_fn fz_sl fzRow_row fz_so fzMap_mp fz_mp appR_row appN appX_nil appX_emp appX_so appS_some appT_some app_is bsD_some bsB_some bsA_some bs1_is bsZ0_some bsA0_some bs0_is src_sl srcR_row src_so src_str src_nil src_emp rowsOK_nil rowsOK_cons rowsOK_app
attribute [local simp] irows_frz trows_frz sp1_frz sp7_frz cells_frz irows_ok trows_ok sp1_ok sp7_ok bRows_map_frz bRows_ok bRows_lt bRows_length strRows_bstr
attribute [local simp] trows_ta trows_da irows_ta irows_da bRows_ta bRows_da

def sh9 (x : Th) : Bool := x.key == 0 && (x.ids.length == 0 && (known x.elem && (decide (x.list.length ≤ 65536) && allK x.elem x.list)))
theorem f74 (sp : Bool) (x : Th) (h : x.ok) : ev 74 [.agg (x.cells sp)] [] = some (.ret (.v (.bool (sh9 x))), []) := by
  obtain ⟨_, _, _, _, b1, b2, _, b3, b4⟩ := Th.ok_is h
  have h75 := f75 (sp := sp) (s := sp7 sp) (k := x.elem) (l := x.list) (by omega) (sp7_lt sp 0)
  have e1 : ((x.ids.length : Int) == 0) = (x.ids.length == 0) := by rw [Bool.eq_iff_iff]; simp
  have e2 : decide ((x.list.length : Int) ≤ 65536) = decide (x.list.length ≤ 65536) := by rw [decide_eq_decide]; omega
  refine ev_fn Try.func74 rfl rfl (Nat.le_of_ble_eq_true rfl) ?_
  simp [ann, reg, Try.f74]
  repeat' (first | ((first | rw [wantK_nm] | rw [wantK_m] | rw [condK_nm] | rw [condK_m] | rw [fWantK_nm] | rw [fWantK_m]); split) | simp [ann, reg, f64, h75, e1, e2, sh9, *])

def idsOK : List Int → Int → Bool
  | [], _ => true
  | i :: is, last => !(decide (i ≤ last) || decide (32767 < i)) && idsOK is i
def sh12 (x : Th) : Bool := idsOK x.ids 0 && (x.key == 0 && (x.elem == 0 && x.ids.length == x.list.length))

theorem f78 (sp : Bool) (x : Th) (h : x.ok) : ev 78 [.agg (x.cells sp)] [] = some (.ret (.v (.bool (sh12 x))), []) := by
  obtain ⟨_, _, _, _, b1, b2, _, b3, b4⟩ := Th.ok_is h
  refine ev_fn Try.func78 rfl rfl (Nat.le_of_ble_eq_true rfl) ?_
  simp [ann, reg, Try.f78]
  generalize hres : runLoop _ _ _ _ = res
  unfold runLoop at hres
  generalize hf : evCode _ _ _ = f at hres
  have key : ∀ (xs : List Int) (j : Nat) (last : Int) (T : Env), x.ids.drop j = xs → T.lookup 7 = some (.sl (irows x.ids) (sp1 sp)) → T.lookup 8 = some (.v (.int .i64 (x.ids.length : Int))) → T.lookup 9 = some (.v (.int .i64 (j : Int))) → T.lookup 3 = some (.v (.int .i64 last)) → T.lookup 1 = some (.ptr 0 0) →
      ∃ T' e, lpW f ⟨T, [.cells (x.cells sp)]⟩ = some (e, ⟨T', [.cells (x.cells sp)]⟩) ∧ ((e = .exit 0 ∧ idsOK xs last = true ∧ T'.lookup 1 = some (.ptr 0 0)) ∨ (e = .ret ∧ idsOK xs last = false ∧ T'.lookup 2 = some (.v (.bool false)))) := by
    intro xs
    induction xs with
    | nil =>
      intro j last T hd t7 t8 t9 t3 t1
      have hj : x.ids.length ≤ j := List.drop_eq_nil_iff.1 hd
      have hlt : ¬ (j : Int) < (x.ids.length : Int) := by omega
      exact ⟨_, _, lpW_once (by rw [← hf]; simp [ann, reg, t7, t8, t9, t3, hlt]; (first | rfl | exact ⟨rfl, rfl⟩ | exact ⟨rfl, rfl, rfl⟩)) (by simp), .inl ⟨rfl, by simp [idsOK], by simp [t1]⟩⟩
    | cons z zs ih =>
      intro j last T hd t7 t8 t9 t3 t1
      obtain ⟨hz, hj, hd'⟩ := drop_get hd
      have hlt : (j : Int) < (x.ids.length : Int) := by omega
      have e3 : IntKind.i64.wrap ((j : Int) + 1) = ((j + 1 : Nat) : Int) := by rw [wrap64_in (by omega) (by omega)]; rfl
      cases hb1 : decide (z ≤ last) with
      | true =>
        exact ⟨_, _, lpW_once (by rw [← hf]; simp [ann, reg, t7, t8, t9, t3, hlt, irows_get hz, hb1]; (first | rfl | exact ⟨rfl, rfl⟩ | exact ⟨rfl, rfl, rfl⟩)) (by simp), .inr ⟨rfl, by simp [idsOK, hb1], by simp⟩⟩
      | false =>
        cases hb2 : decide (32767 < z) with
        | true =>
          exact ⟨_, _, lpW_once (by rw [← hf]; simp [ann, reg, t7, t8, t9, t3, hlt, irows_get hz, hb1, hb2]; (first | rfl | exact ⟨rfl, rfl⟩ | exact ⟨rfl, rfl, rfl⟩)) (by simp), .inr ⟨rfl, by simp [idsOK, hb2], by simp⟩⟩
        | false =>
          obtain ⟨T1, q, q7, q8, q9, q3, q1⟩ : ∃ T1, f ⟨T, [.cells (x.cells sp)]⟩ = some (.normal, ⟨T1, [.cells (x.cells sp)]⟩) ∧ T1.lookup 7 = some (.sl (irows x.ids) (sp1 sp)) ∧ T1.lookup 8 = some (.v (.int .i64 (x.ids.length : Int))) ∧ T1.lookup 9 = some (.v (.int .i64 ((j + 1 : Nat) : Int))) ∧ T1.lookup 3 = some (.v (.int .i64 z)) ∧ T1.lookup 1 = some (.ptr 0 0) :=
            ⟨_, by rw [← hf]; simp [ann, reg, t7, t8, t9, t3, hlt, irows_get hz, hb1, hb2, e3]; (first | rfl | exact ⟨rfl, rfl⟩ | exact ⟨rfl, rfl, rfl⟩), by simp [t7], by simp [t8], by simp, by simp, by simp [t1]⟩
          obtain ⟨T', e, r1, r2⟩ := ih (j + 1) z T1 hd' q7 q8 q9 q3 q1
          refine ⟨T', e, lpW_first q r1, ?_⟩
          have : idsOK (z :: zs) last = idsOK zs z := by simp only [idsOK, hb1, hb2]; rfl
          rw [this]; exact r2
  obtain ⟨T', e, h1, h2⟩ : ∃ T' e, res = some (e, ⟨T', [.cells (x.cells sp)]⟩) ∧ ((e = .exit 0 ∧ idsOK x.ids 0 = true ∧ T'.lookup 1 = some (.ptr 0 0)) ∨ (e = .ret ∧ idsOK x.ids 0 = false ∧ T'.lookup 2 = some (.v (.bool false)))) := by
    rw [← hres]
    exact key x.ids 0 0 _ (by simp) (by simp) (by simp) (by simp) (by simp) (by simp)
  subst h1
  have e1 : ((x.ids.length : Int) == (x.list.length : Int)) = (x.ids.length == x.list.length) := by rw [Bool.eq_iff_iff]; simp; omega
  clear hf
  rcases h2 with ⟨rfl, h2, h3⟩ | ⟨rfl, h2, h3⟩
  · simp [ann, reg, sh12, h2, h3]
    repeat' (first | ((first | rw [wantK_nm] | rw [wantK_m] | rw [condK_nm] | rw [condK_m] | rw [fWantK_nm] | rw [fWantK_m]); split) | simp [ann, reg, h3, e1, *])
  · simp [ann, reg, sh12, h2, h3]

end Go.Proofs.Th
/- THRIFT: what may be, by the program: maps; values. -/
open Go Go.Ag
namespace Go.Proofs.Th
attribute [local simp] ec_skip ec_region ec_seq ec_cond ec_block ec_loop ec_exit ec_ret seqK_normal seqK_exit seqK_ret seqK_pan condK_true condK_false blockK_exit blockK_normal blockK_ret blockK_pan regionK_plain regionK_draw eo_nil eo_cons cutS_nil cutOf opK_is wantK_yes wantK_no stepK_ret stepK_pan endK_normal endK_ret endK_pan annotate headS wantedA evOp evOp1 evA Ag.get putT dstOK argsEnv retK resR resAll resOne constAV constCell Ctx.bss evLoad evStore AV.cells intOfAV AV.val AV.vals splice okCell okCells_nil okCells_cons finish AV.lt AV.lts AV.ltss putObj partOf restrT ltT ownOK bsOK bsOKs List.lookup_cons pr_bind pr_pure pr_guard_int pr_guard_str pr_guard_bool pr_add pr_sub pr_mul pr_eql pr_neq pr_lss pr_leq pr_gtr pr_geq pr_seql pr_sneq pr_not pr_neg pr_shl pr_shr pr_quo pr_rem pr_and pr_or pr_xor pr_conv pr_min2 pr_max2 undef callP plA plS plR plO nameP ARes.keys putObj callW callAt callKs inS outS backK reachW pickM renObjs AObj.ren AV.ren AV.rens renss renE posOf backM outK lokAt ARes.ren AV.keys AV.keyss objKeys evFieldAddr evIndexAddr evLen evFill List.range_succ Value.oneCell' evInsert mfind sameKey isKey AObj.lt Value.cells
attribute [local simp] cells_len cells_ok cells_lt trows_lt irows_lt sp1_lt sp7_lt irows_len trows_len cells_0 cells_1 cells_2 cells_3 cells_4 cells_5 cells_6 cellg_0 cellg_1 cellg_2 cellg_3 cellg_4 cellg_5 cellg_6 cells_take cells_keys cells_rens pr_lenstr bstr_size
attribute [local simp] look_mp look_mp2 look_imp look_imp2 lookV lookB intKeys cond_vint cond_vbool bits_i64 bits_u64 bits_u8 bits_i8 bits_i32 bits_u32
attribute [local simp] wrap64_in wrapu64_in wrapu8_in
attribute [local simp] fz_int fz_str fz_bool fz_float fz_nilp fz_tuple fz_nili fz_nilf fz_nilm fz_any fz_nil fz_emp fz_ptr fz_rp fz_ip fz_imp fz_agg fz_tup fz_ifc fz_fn fz_sl fzRow_row fz_so fzMap_mp fz_mp appR_row appN appX_nil appX_emp appX_so appS_some appT_some app_is bsD_some bsB_some bsA_some bs1_is bsZ0_some bsA0_some bs0_is src_sl srcR_row src_so src_str src_nil src_emp rowsOK_nil rowsOK_cons rowsOK_app
attribute [local simp] irows_frz trows_frz sp1_frz sp7_frz cells_frz irows_ok trows_ok sp1_ok sp7_ok bRows_map_frz bRows_ok bRows_lt bRows_length strRows_bstr
attribute [local simp] trows_ta trows_da irows_ta irows_da bRows_ta bRows_da
attribute [local simp] mask_F maskF merge_F mergeF d_fast evFast_is f_nil f_cons fWantK_no fWantK_yes fFp_w fFp_r fClW_t fClR_t fOpW_r fOpR_r fValW_t fValR_t fastX_some clashFree isPureFP fpOf FP.has FP.meets restr Oper.looksAt isAlloc Op.operands Call.operands List.filter_cons rank Nat.testBit reach

def sh11 (x : Th) : Bool :=
  bif (x.list.length : Int) == 0 then x.key == 0 && (x.elem == 0 && x.ids.length == 0)
  else x.ids.length == 0 && (known x.key && (known x.elem && (x.list.length % 2 == 0 && (decide (x.list.length / 2 ≤ 65536) && (allK x.key (evens x.list) && allK x.elem (evens x.list.tail))))))
theorem evens_len : ∀ l : List Th, (evens l).length ≤ l.length
  | [] => by simp [evens]
  | [x] => by simp [evens]
  | x :: y :: r => by have := evens_len r; simp [evens]; omega
set_option maxRecDepth 20000 in
set_option maxHeartbeats 8000000 in
theorem f76 (sp : Bool) (x : Th) (h : x.ok) : ev 76 [.agg (x.cells sp)] [] = some (.ret (.v (.bool (sh11 x))), []) := by
  obtain ⟨_, _, _, _, b1, b2, _, b3, b4⟩ := Th.ok_is h
  have l0 := evens_len x.list
  have l1 := evens_len (x.list.drop 1)
  rw [List.length_drop] at l1
  have h0 := f77 (sp := sp) (s := sp7 sp) (l := x.list) 0 b3 (sp7_lt sp 0) (by omega)
  have h1 := f77 (sp := sp) (s := sp7 sp) (l := x.list) 1 b3 (sp7_lt sp 0) (by omega)
  have k0 := f75 (sp := sp) (s := []) (k := x.key) (l := evens x.list) (by omega) rfl
  have k1 := f75 (sp := sp) (s := []) (k := x.elem) (l := evens (x.list.drop 1)) (by omega) rfl
  have e1 : ((x.ids.length : Int) == 0) = (x.ids.length == 0) := by rw [Bool.eq_iff_iff]; simp
  have e2 : IntKind.i64.wrap ((x.list.length : Int) / 2) = (x.list.length : Int) / 2 := wrap64_in (by omega) (by omega)
  have e3 : ((x.list.length : Int).tmod 2 == 0) = (x.list.length % 2 == 0) := by rw [Int.tmod_eq_emod_of_nonneg (by omega), Bool.eq_iff_iff]; simp; omega
  have e4 : decide ((x.list.length : Int) / 2 ≤ 65536) = decide (x.list.length / 2 ≤ 65536) := by rw [decide_eq_decide]; omega
  simp only [List.drop_zero, Int.natCast_zero, Int.natCast_one] at h0 h1
  rw [List.drop_one] at h1 k1
  have hb := bef_76_3
  simp [Try.f76, opsOf] at hb
  refine ev_fn Try.func76 rfl rfl (Nat.le_of_ble_eq_true rfl) ?_
  simp [ann, reg, Try.f76]
  repeat' (first | ((first | rw [wantK_nm] | rw [wantK_m] | rw [condK_nm] | rw [condK_m] | rw [fWantK_nm] | rw [fWantK_m]); split) | simp [ann, reg, hb, f64, h0, h1, k0, k1, e1, e2, e3, e4, sh11, *])
end Go.Proofs.Th
