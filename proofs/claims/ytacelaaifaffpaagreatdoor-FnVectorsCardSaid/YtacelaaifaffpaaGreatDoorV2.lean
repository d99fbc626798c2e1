/- The plain law of vectors. -/
import Derived.Test.YtacelaaifaffpaaGreatDoorV1
namespace Go.Proofs.YtacelaaifaffpaaGreatDoor
set_option linter.unusedVariables false
set_option linter.unusedSimpArgs false

/-! ## Numbers in their canonical form -/

def Cn (x : Nat) : Prop := F32 x ∧ canon .f32 x = x

theorem Cn.fopt {o : Option Ieee.Datum} : Cn (fopt .f32 (o.map FloatKind.f32.format.write)) := by
  refine ⟨?_, ?_⟩
  · have := wd_fopt (k := .f32) (o := o)
    have e : 2 * FloatKind.f32.format.signWeight = 4294967296 := by decide
    unfold Wd at this
    rw [e] at this
    exact this
  · cases o with
    | none => decide +kernel
    | some d => exact canon_canon _ _

theorem Cn.div (x y : Nat) : Cn (fdiv .f32 x y) := Cn.fopt
theorem Cn.mul (x y : Nat) : Cn (fmul .f32 x y) := Cn.fopt

theorem nb_cn {x : Nat} (h : Cn x) : nb x = x := by
  obtain ⟨h1, h2⟩ := h
  unfold nb spec_l01Bits spec_l01Bits_tree
  simp only [fne_self]
  cases hn : isNaN .f32 x with
  | true =>
    have : canon .f32 x = 2143289344 := by unfold canon; rw [hn]; rfl
    rw [h2] at this
    simp only [DT.val]
    rw [this]
    rfl
  | false =>
    unfold F32 at h1
    simp only [DT.val]
    rw [wrap_small (by omega) (by omega)]
    omega

theorem word_cn {x : Nat} (h : Cn x) : wordP (hexW x) = some x := by
  have hlt := h.1
  unfold F32 at hlt
  unfold wordP
  rw [hexW_length]
  simp only [decide_true]
  unfold hexW
  rw [nb_cn h, foldH_tail x 8 0]
  have e : 0 * 16 ^ 8 + x % 16 ^ 8 = x := by
    rw [Nat.zero_mul, Nat.zero_add]
    exact Nat.mod_eq_of_lt (by omega)
  rw [e]
  simp only [h.2, nb_cn h, beq_self_eq_true, cond_true]

theorem hexTail_no : ∀ (k u : Nat), (44 : UInt8) ∉ hexTail k u ∧ (110 : UInt8) ∉ hexTail k u
  | 0, u => by simp [hexTail]
  | k + 1, u => by
    have ih := hexTail_no k
    have hd : ∀ d, d < 16 → hexD d ≠ 44 ∧ hexD d ≠ 110 := by decide
    unfold hexTail
    simp only [List.mem_append, List.mem_cons, not_or]
    constructor
    · first
        | exact ⟨(ih _).1, fun e => (hd _ (Nat.mod_lt _ (by decide))).1 e.symm, by simp⟩
        | exact ⟨fun e => (hd _ (Nat.mod_lt _ (by decide))).1 e.symm, (ih _).1⟩
    · first
        | exact ⟨(ih _).2, fun e => (hd _ (Nat.mod_lt _ (by decide))).2 e.symm, by simp⟩
        | exact ⟨fun e => (hd _ (Nat.mod_lt _ (by decide))).2 e.symm, (ih _).2⟩

theorem hexW_no (x : Nat) : (44 : UInt8) ∉ hexW x := (hexTail_no 8 (nb x)).1

theorem vecT_eq (v : Vec) : vecT v = hexW v.X ++ 44 :: (hexW v.Y ++ 44 :: hexW v.Z) := by
  unfold vecT numsT
  simp [Go.Lib.join, Go.Lib.joinTail, List.append_assoc]

theorem vecT_len (v : Vec) : (vecT v).length = 26 := by
  rw [vecT_eq]
  simp [hexW_length]

theorem read_vec (v : Vec) (hx : Cn v.X) (hy : Cn v.Y) (hz : Cn v.Z) : impl_ReadVector_need (vecT v) = true ∧ impl_ReadVector (vecT v) = (v, true) := by
  have hcut : C44.cuts (vecT v) = [hexW v.X, hexW v.Y, hexW v.Z] := by
    rw [vecT_eq, C44.cuts_app _ (hexW_no _), C44.cuts_app _ (hexW_no _), C44.cuts_pure (hexW_no _)]
  have hnum : numsR (vecT v) = some [v.X, v.Y, v.Z] := by
    unfold numsR
    have hne : (vecT v == [110, 111, 110, 101]) = false := by
      refine beq_eq_false_iff_ne.2 fun e => ?_
      have := congrArg List.length e
      rw [vecT_len] at this
      simp at this
    rw [hne, hcut]
    simp only [List.length_cons, List.length_nil, readL, word_cn hx, word_cn hy, word_cn hz, Option.map_some]
    rfl
  obtain ⟨n1, n2⟩ := nums_impl (vecT v) (by rw [vecT_len]; decide)
  have ho : impl_ReadNumbers (vecT v) = .inl [v.X, v.Y, v.Z] := by rw [n2]; unfold outR; rw [hnum]
  have key : (impl_ReadVector_tree (vecT v)).get = some (v, true) := by
    unfold impl_ReadVector_tree
    simp only [DT.get, n1, ho, isL, leftD, List.length_cons, List.length_nil]
    rfl
  exact DT.of_get key

theorem same_number (x : Nat) : impl_SameNumber_need x x = true ∧ impl_SameNumber x x = true := by
  have key : (impl_SameNumber_tree x x).get = some true := by
    unfold impl_SameNumber_tree
    simp only [fne_self, feq_self]
    cases hn : isNaN .f32 x with
    | true => rfl
    | false => simp only [DT.get, fconvOk_up, isNaN_up, hn, Bool.not_false, beq_self_eq_true]
  exact DT.of_get key

theorem same_numbers (l : List Nat) (hl : l.length ≤ 2 ^ 62) : impl_sameNumbers_need l l = true ∧ impl_sameNumbers l l = true := by
  obtain ⟨h1, h2⟩ := scan_loop (α := Unit) (β := Unit) (step := slices_EqualFunc___float32___float32_float32_float32__impl_SameNumber_loop0_step (l, l, ((l.length : Nat) : Int))) l.length (fun _ => none) () (fun i hi => by
    refine ⟨[], ?_⟩
    unfold slices_EqualFunc___float32___float32_float32_float32__impl_SameNumber_loop0_step
    simp only [DT.get, nat_dec hi, nat_ge, Bool.and_true, (same_number _).1, (same_number _).2, nat_next hi hl, Bool.not_true]) ⟨[], by
    unfold slices_EqualFunc___float32___float32_float32_float32__impl_SameNumber_loop0_step
    simp only [DT.get, nat_not]⟩
  have hf : firstOf (fun _ : Nat => (none : Option Unit)) l.length = none := by
    unfold firstOf
    rw [List.findSome?_eq_none_iff]
    intro x _
    rfl
  rw [hf] at h2
  have h1 : slices_EqualFunc___float32___float32_float32_float32__impl_SameNumber_loop0_ends (l, l, ((l.length : Nat) : Int)) 0 = true := h1
  have h2 : slices_EqualFunc___float32___float32_float32_float32__impl_SameNumber_loop0 (l, l, ((l.length : Nat) : Int)) 0 = .inr () := h2
  have k1 : slices_EqualFunc___float32___float32_float32_float32__impl_SameNumber_need l l = true ∧ slices_EqualFunc___float32___float32_float32_float32__impl_SameNumber l l = true := by
    have key : (slices_EqualFunc___float32___float32_float32_float32__impl_SameNumber_tree l l).get = some true := by
      unfold slices_EqualFunc___float32___float32_float32_float32__impl_SameNumber_tree
      have d : (((List.length l : Nat) : Int) != ((List.length l : Nat) : Int)) = false := by simp
      simp only [DT.get, d, h1, h2, isL]
    exact DT.of_get key
  have key : (impl_sameNumbers_tree l l).get = some true := by
    unfold impl_sameNumbers_tree
    simp only [DT.get, k1.1, k1.2]
  exact DT.of_get key

theorem same_vector (v : Vec) : impl_SameVector_need v v = true ∧ impl_SameVector v v = true := by
  have key : (impl_SameVector_tree v v).get = some true := by
    unfold impl_SameVector_tree
    obtain ⟨a, b⟩ := same_numbers (impl_Vector_numbers v) (by show 3 ≤ 2 ^ 62; decide)
    simp only [DT.get, a, b]
  exact DT.of_get key

/-! ## What is drawn -/

def Bytes (c : List Int) : Prop := c.length ≤ 1048576 ∧ ∀ x ∈ c, 0 ≤ x ∧ x ≤ 255

theorem Bytes.at {c : List Int} (h : Bytes c) (i : Nat) (hi : i < c.length) : 0 ≤ c.getD i default ∧ c.getD i default ≤ 255 := by
  rw [List.getD_eq_getElem?_getD, List.getElem?_eq_getElem hi]
  exact h.2 _ (List.getElem_mem hi)

theorem and255 (y : Int) : 0 ≤ IntKind.wrap .i64 (IntKind.wrap .u64 ((BitVec.ofInt (IntKind.bits .u64) y &&& BitVec.ofInt (IntKind.bits .u64) 255).toNat : Int)) ∧ IntKind.wrap .i64 (IntKind.wrap .u64 ((BitVec.ofInt (IntKind.bits .u64) y &&& BitVec.ofInt (IntKind.bits .u64) 255).toNat : Int)) ≤ 255 := by
  have h : (BitVec.ofInt (IntKind.bits .u64) y &&& BitVec.ofInt (IntKind.bits .u64) 255).toNat ≤ 255 := by
    rw [BitVec.toNat_and]
    exact Nat.le_trans Nat.and_le_right (by decide)
  generalize (BitVec.ofInt (IntKind.bits .u64) y &&& BitVec.ofInt (IntKind.bits .u64) 255).toNat = t at *
  have e : IntKind.wrap .u64 ((t : Nat) : Int) = ((t : Nat) : Int) := by
    show ((t : Nat) : Int) % 18446744073709551616 = _
    omega
  rw [e, wrap_small (by omega) (by omega)]
  omega

theorem next_ok {c : List Int} (hc : Bytes c) {a : Int} (s : Int) (h0 : 0 ≤ a) (h1 : a ≤ 2 ^ 40) : ∃ v s', (spec_l00Src_next_tree c a s).get = some (v, a + 1, s') ∧ 0 ≤ v ∧ v ≤ 255 := by
  have hl := hc.1
  have hw : IntKind.wrap .i64 (a + 1) = a + 1 := wrap_small (by omega) (by omega)
  unfold spec_l00Src_next_tree
  simp only [hw]
  by_cases hlt : a < ((c.length : Nat) : Int)
  · have d1 : decide (a < ((c.length : Nat) : Int)) = true := decide_eq_true hlt
    have d2 : decide (0 ≤ a) = true := decide_eq_true h0
    have d3 : decide (a + 1 ≤ ((c.length : Nat) : Int)) = true := decide_eq_true (by omega)
    have hb := hc.at a.toNat (by omega)
    simp only [DT.get, d1, d2, d3, Bool.and_true]
    refine ⟨_, _, rfl, ?_⟩
    rw [wrap_small (by omega) (by omega)]
    exact hb
  · have d1 : decide (a < ((c.length : Nat) : Int)) = false := decide_eq_false hlt
    have d3 : decide (a + 1 ≤ ((c.length : Nat) : Int)) = false := decide_eq_false (by omega)
    simp only [DT.get, d1, d3]
    exact ⟨_, _, rfl, and255 _⟩

theorem next_eq {c : List Int} (hc : Bytes c) {a : Int} (s : Int) (h0 : 0 ≤ a) (h1 : a ≤ 2 ^ 40) : ∃ v s', spec_l00Src_next_need c a s = true ∧ spec_l00Src_next c a s = (v, a + 1, s') ∧ 0 ≤ v ∧ v ≤ 255 := by
  obtain ⟨v, s', h, hv⟩ := next_ok hc s h0 h1
  obtain ⟨k1, k2⟩ := DT.of_get h
  exact ⟨v, s', k1, k2, hv⟩

theorem pick_eq {c : List Int} (hc : Bytes c) {a : Int} (s : Int) {n : Int} (h0 : 0 ≤ a) (h1 : a ≤ 2 ^ 39) (hn : 2 ≤ n) (hn2 : n ≤ 2 ^ 40) :
    ∃ v a' s', spec_l00Src_pick_need c a s n = true ∧ spec_l00Src_pick c a s n = (v, a', s') ∧ 0 ≤ v ∧ v < n ∧ a ≤ a' ∧ a' ≤ a + 2 := by
  obtain ⟨v, s1, n1, n2, hv0, hv1⟩ := next_eq hc s h0 (by omega)
  have d1 : decide (n ≤ 1) = false := decide_eq_false (by omega)
  have d3 : (n != 0) = true := by simp; omega
  have key : ∃ v a' s', (spec_l00Src_pick_tree c a s n).get = some (v, a', s') ∧ 0 ≤ v ∧ v < n ∧ a ≤ a' ∧ a' ≤ a + 2 := by
    unfold spec_l00Src_pick_tree
    by_cases hg : n > 200
    · have d2 : decide (n > 200) = true := decide_eq_true hg
      obtain ⟨v2, s2, m1, m2, hw0, hw1⟩ := next_eq hc s1 (a := a + 1) (by omega) (by omega)
      simp only [DT.get, d1, n1, n2, d2, m1, m2, d3]
      refine ⟨_, _, _, rfl, ?_, ?_, by omega, by omega⟩
      · rw [wrap_small (n := v * 256) (by omega) (by omega), wrap_small (by omega) (by omega)]
        exact Int.tmod_nonneg _ (by omega)
      · exact Int.tmod_lt_of_pos _ (by omega)
    · have d2 : decide (n > 200) = false := decide_eq_false hg
      simp only [DT.get, d1, n1, n2, d2, d3]
      exact ⟨_, _, _, rfl, Int.tmod_nonneg _ hv0, Int.tmod_lt_of_pos _ (by omega), by omega, by omega⟩
  obtain ⟨v, a', s', h, hv⟩ := key
  obtain ⟨k1, k2⟩ := DT.of_get h
  exact ⟨v, a', s', k1, k2, hv⟩

theorem one_eq {c : List Int} (hc : Bytes c) {a : Int} (s : Int) {n : Int} (h0 : 0 ≤ a) (h1 : a ≤ 2 ^ 39) (hn : 2 ≤ n) (hn2 : n ≤ 2 ^ 40) :
    ∃ b a' s', spec_l00Src_one_need c a s n = true ∧ spec_l00Src_one c a s n = (b, a', s') ∧ a ≤ a' ∧ a' ≤ a + 2 := by
  obtain ⟨v, a', s', p1, p2, _, _, h⟩ := pick_eq hc s h0 h1 hn hn2
  have key : (spec_l00Src_one_tree c a s n).get = some (v == 0, a', s') := by
    unfold spec_l00Src_one_tree
    simp only [DT.get, p1, p2]
  obtain ⟨k1, k2⟩ := DT.of_get key
  exact ⟨_, a', s', k1, k2, h⟩

theorem small_eq {c : List Int} (hc : Bytes c) {a : Int} (s : Int) (h0 : 0 ≤ a) (h1 : a ≤ 2 ^ 39) :
    ∃ x a' s', spec_l01DrawSmall_need c a s = true ∧ spec_l01DrawSmall c a s = (x, a', s') ∧ Cn x ∧ a ≤ a' ∧ a' ≤ a + 2 := by
  obtain ⟨v, a', s', p1, p2, _, _, h⟩ := pick_eq hc s (n := 33) h0 h1 (by omega) (by omega)
  have key : (spec_l01DrawSmall_tree c a s).get = some (fdiv .f32 (fofInt .f32 (IntKind.wrap .i64 (v - 16))) 1082130432, a', s') := by
    unfold spec_l01DrawSmall_tree
    simp only [DT.get, p1, p2]
  obtain ⟨k1, k2⟩ := DT.of_get key
  exact ⟨_, a', s', k1, k2, Cn.div _ _, h⟩

theorem plain_eq {c : List Int} (hc : Bytes c) {a : Int} (s : Int) (h0 : 0 ≤ a) (h1 : a ≤ 2 ^ 38) :
    ∃ x a' s', spec_l01DrawPlain_need c a s = true ∧ spec_l01DrawPlain c a s = (x, a', s') ∧ Cn x ∧ a ≤ a' ∧ a' ≤ a + 4 := by
  obtain ⟨v, a', s', p1, p2, _, _, h, h'⟩ := pick_eq hc s (n := 129) h0 (by omega) (by omega) (by omega)
  obtain ⟨b, a2, s2, q1, q2, g, g'⟩ := one_eq hc s' (a := a') (n := 4) (by omega) (by omega) (by omega) (by omega)
  have key : ∃ x, (spec_l01DrawPlain_tree c a s).get = some (x, a2, s2) ∧ Cn x := by
    unfold spec_l01DrawPlain_tree
    cases b with
    | true =>
      simp only [DT.get, p1, p2, q1, q2]
      exact ⟨_, rfl, Cn.div _ _⟩
    | false =>
      simp only [DT.get, p1, p2, q1, q2]
      exact ⟨_, rfl, Cn.div _ _⟩
  obtain ⟨x, key, hx⟩ := key
  obtain ⟨k1, k2⟩ := DT.of_get key
  exact ⟨x, a2, s2, k1, k2, hx, by omega, by omega⟩

theorem among_eq {c : List Int} (hc : Bytes c) {a : Int} (s : Int) (l : List Int) (h0 : 0 ≤ a) (h1 : a ≤ 2 ^ 39) (hn : 2 ≤ l.length) (hn2 : l.length ≤ 2 ^ 40) :
    ∃ x a' s', spec_l00Src_among_need c a s l = true ∧ spec_l00Src_among c a s l = (x, a', s') ∧ a ≤ a' ∧ a' ≤ a + 2 := by
  obtain ⟨v, a', s', p1, p2, hv0, hv1, h⟩ := pick_eq hc s (n := ((l.length : Nat) : Int)) h0 h1 (by omega) (by omega)
  have d : (decide (0 ≤ v) && decide (v < ((l.length : Nat) : Int))) = true := by rw [decide_eq_true hv0, decide_eq_true hv1]; rfl
  have key : (spec_l00Src_among_tree c a s l).get = some (l.getD v.toNat default, a', s') := by
    unfold spec_l00Src_among_tree
    simp only [DT.get, p1, p2, d]
  obtain ⟨k1, k2⟩ := DT.of_get key
  exact ⟨_, a', s', k1, k2, h⟩

theorem from_cn (n : Int) : Cn (spec_l01From n) := by
  have e : spec_l01From n = canon .f32 (IntKind.wrap .u32 n).toNat := rfl
  have hu : IntKind.wrap .u32 n = n % 4294967296 := rfl
  rw [e]
  exact ⟨canon_lt (by rw [hu]; omega), canon_canon _ _⟩

theorem float_eq {c : List Int} (hc : Bytes c) {a : Int} (s : Int) (h0 : 0 ≤ a) (h1 : a ≤ 2 ^ 37) :
    ∃ x a' s', spec_l01DrawFloat_need c a s = true ∧ spec_l01DrawFloat c a s = (x, a', s') ∧ Cn x := by
  obtain ⟨b, a1, s1, q1, q2, g, g'⟩ := one_eq hc s (n := 12) h0 (by omega) (by omega) (by omega)
  have key : ∃ x a' s', (spec_l01DrawFloat_tree c a s).get = some (x, a', s') ∧ Cn x := by
    unfold spec_l01DrawFloat_tree
    cases b with
    | false =>
      obtain ⟨x, a2, s2, p1, p2, hx, _⟩ := plain_eq hc s1 (a := a1) (by omega) (by omega)
      simp only [DT.get, q1, q2, Bool.not_false, p1, p2]
      exact ⟨_, _, _, rfl, hx⟩
    | true =>
      obtain ⟨v, a2, s2, p1, p2, _, _, h2, h2'⟩ := pick_eq hc s1 (a := a1) (n := 4) (by omega) (by omega) (by omega) (by omega)
      cases e0 : (v == 0) with
      | true =>
        obtain ⟨x, a3, s3, r1, r2, _⟩ := among_eq hc s2 (a := a2) [0, 2147483648, 2139095040, 4286578688, 2143289344, 1, 2139095039, 8388608, 8388607, 2147483649] (by omega) (by omega) (by decide) (by decide)
        simp only [DT.get, q1, q2, Bool.not_true, p1, p2, e0, r1, r2]
        exact ⟨_, _, _, rfl, from_cn _⟩
      | false =>
        cases e1 : (v == 1) with
        | true =>
          obtain ⟨u, a3, s3, r1, r2, _, _, h3, h3'⟩ := pick_eq hc s2 (a := a2) (n := 65536) (by omega) (by omega) (by omega) (by omega)
          obtain ⟨u2, a4, s4, t1, t2, _⟩ := pick_eq hc s3 (a := a3) (n := 65536) (by omega) (by omega) (by omega) (by omega)
          simp only [DT.get, q1, q2, Bool.not_true, p1, p2, e0, e1, r1, r2, t1, t2]
          exact ⟨_, _, _, rfl, from_cn _⟩
        | false =>
          cases e2 : (v == 2) with
          | true =>
            obtain ⟨u, a3, s3, r1, r2, _, _, h3, h3'⟩ := pick_eq hc s2 (a := a2) (n := 65536) (by omega) (by omega) (by omega) (by omega)
            simp only [DT.get, q1, q2, Bool.not_true, p1, p2, e0, e1, e2, r1, r2]
            exact ⟨_, _, _, rfl, from_cn _⟩
          | false =>
            obtain ⟨x, a3, s3, r1, r2, hx, h3, h3'⟩ := plain_eq hc s2 (a := a2) (by omega) (by omega)
            obtain ⟨y, a4, s4, t1, t2, _⟩ := among_eq hc s3 (a := a3) [8388608, 2130706432, 1610612736, 536870912] (by omega) (by omega) (by decide) (by decide)
            simp only [DT.get, q1, q2, Bool.not_true, p1, p2, e0, e1, e2, r1, r2, t1, t2]
            exact ⟨_, _, _, rfl, Cn.mul _ _⟩
  obtain ⟨x, a', s', key, hx⟩ := key
  obtain ⟨k1, k2⟩ := DT.of_get key
  exact ⟨x, a', s', k1, k2, hx⟩

theorem any_eq {c : List Int} (hc : Bytes c) : ∃ v : Vec, spec_B10AnyVector_need c = true ∧ spec_B10AnyVector c = v ∧ Cn v.X ∧ Cn v.Y ∧ Cn v.Z := by
  obtain ⟨b, a1, s1, q1, q2, g, g'⟩ := one_eq hc 0 (a := 0) (n := 10) (by omega) (by omega) (by omega) (by omega)
  obtain ⟨x, a2, s2, p1, p2, hx, h2, h2'⟩ := small_eq hc s1 (a := a1) (by omega) (by omega)
  obtain ⟨y, a3, s3, r1, r2, hy, h3, h3'⟩ := small_eq hc s2 (a := a2) (by omega) (by omega)
  obtain ⟨z, a4, s4, t1, t2, hz, h4, h4'⟩ := small_eq hc s3 (a := a3) (by omega) (by omega)
  obtain ⟨u, a5, s5, w1, w2, hu⟩ := float_eq hc s4 (a := a4) (by omega) (by omega)
  have key : ∃ (v : Vec) (a' s' : Int), (spec_l01DrawVector_tree c 0 0).get = some (v, a', s') ∧ Cn v.X ∧ Cn v.Y ∧ Cn v.Z := by
    unfold spec_l01DrawVector_tree
    cases b with
    | true =>
      simp only [DT.get, q1, q2, p1, p2, r1, r2, t1, t2, w1, w2]
      exact ⟨_, _, _, rfl, hx, hu, hz⟩
    | false =>
      simp only [DT.get, q1, q2, p1, p2, r1, r2, t1, t2]
      exact ⟨_, _, _, rfl, hx, hy, hz⟩
  obtain ⟨v, a', s', key, hv⟩ := key
  obtain ⟨k1, k2⟩ := DT.of_get key
  have k1 : spec_l01DrawVector_need c 0 0 = true := k1
  have k2 : spec_l01DrawVector c 0 0 = (v, a', s') := k2
  have key2 : (spec_B10AnyVector_tree c).get = some v := by
    unfold spec_B10AnyVector_tree
    simp only [DT.get, k1, k2]
  obtain ⟨m1, m2⟩ := DT.of_get key2
  exact ⟨v, m1, m2, hv⟩

/-! ## Vectors of small integers -/

def VI (v : Vec) (x y z : Int) : Prop := WI v.X x ∧ WI v.Y y ∧ WI v.Z z

theorem vector_eq {c : List Int} (hc : Bytes c) : ∃ (v : Vec) (x y z : Int), spec_B10Vector_need c 50 = true ∧ spec_B10Vector c 50 = v ∧ VI v x y z ∧ x.natAbs ≤ 50 ∧ y.natAbs ≤ 50 ∧ z.natAbs ≤ 50 := by
  have e1 : IntKind.wrap .i64 (IntKind.wrap .i64 (2 * 50) + 1) = 101 := by decide
  obtain ⟨u, a1, s1, p1, p2, hu0, hu1, h1, h1'⟩ := pick_eq hc 0 (a := 0) (n := 101) (by omega) (by omega) (by omega) (by omega)
  obtain ⟨v, a2, s2, q1, q2, hv0, hv1, h2, h2'⟩ := pick_eq hc s1 (a := a1) (n := 101) (by omega) (by omega) (by omega) (by omega)
  obtain ⟨w, a3, s3, r1, r2, hw0, hw1, h3, h3'⟩ := pick_eq hc s2 (a := a2) (n := 101) (by omega) (by omega) (by omega) (by omega)
  have key : (spec_B10Vector_tree c 50).get = some (⟨fofInt .f32 (u - 50), fofInt .f32 (v - 50), fofInt .f32 (w - 50)⟩ : Vec) := by
    unfold spec_B10Vector_tree
    simp only [DT.get, e1, p1, p2, q1, q2, r1, r2]
    rw [wrap_small (n := u - 50) (by omega) (by omega), wrap_small (n := v - 50) (by omega) (by omega), wrap_small (n := w - 50) (by omega) (by omega)]
  obtain ⟨k1, k2⟩ := DT.of_get key
  exact ⟨_, u - 50, v - 50, w - 50, k1, k2, ⟨WI.of (by omega), WI.of (by omega), WI.of (by omega)⟩, by omega, by omega, by omega⟩

theorem mul_le {x y : Int} {m n : Nat} (hx : x.natAbs ≤ m) (hy : y.natAbs ≤ n) : (x * y).natAbs ≤ m * n := by
  rw [Int.natAbs_mul]
  exact Nat.mul_le_mul hx hy
theorem add_le {x y : Int} {m n : Nat} (hx : x.natAbs ≤ m) (hy : y.natAbs ≤ n) : (x + y).natAbs ≤ m + n := Nat.le_trans (Int.natAbs_add_le x y) (Nat.add_le_add hx hy)
theorem sub_le {x y : Int} {m n : Nat} (hx : x.natAbs ≤ m) (hy : y.natAbs ≤ n) : (x - y).natAbs ≤ m + n := by
  rw [Int.sub_eq_add_neg]
  exact add_le hx (by rw [Int.natAbs_neg]; exact hy)

/-- Its numbers are integers, at most m. -/
def VB (v : Vec) (x y z : Int) (m : Nat) : Prop := VI v x y z ∧ x.natAbs ≤ m ∧ y.natAbs ≤ m ∧ z.natAbs ≤ m

theorem VB.add {u v : Vec} {a b c d e f : Int} {m n : Nat} (hu : VB u a b c m) (hv : VB v d e f n) (h : m + n < 16777216) : VB (impl_AddVectors u v) (a + d) (b + e) (c + f) (m + n) := by
  obtain ⟨⟨u1, u2, u3⟩, ha, hb, hc⟩ := hu
  obtain ⟨⟨v1, v2, v3⟩, hd, he, hf⟩ := hv
  exact ⟨⟨u1.add v1 (Nat.lt_of_le_of_lt (add_le ha hd) h), u2.add v2 (Nat.lt_of_le_of_lt (add_le hb he) h), u3.add v3 (Nat.lt_of_le_of_lt (add_le hc hf) h)⟩, add_le ha hd, add_le hb he, add_le hc hf⟩
theorem VB.less {u v : Vec} {a b c d e f : Int} {m n : Nat} (hu : VB u a b c m) (hv : VB v d e f n) (h : m + n < 16777216) : VB (impl_LessVectors u v) (a - d) (b - e) (c - f) (m + n) := by
  obtain ⟨⟨u1, u2, u3⟩, ha, hb, hc⟩ := hu
  obtain ⟨⟨v1, v2, v3⟩, hd, he, hf⟩ := hv
  exact ⟨⟨u1.sub v1 (Nat.lt_of_le_of_lt (sub_le ha hd) h), u2.sub v2 (Nat.lt_of_le_of_lt (sub_le hb he) h), u3.sub v3 (Nat.lt_of_le_of_lt (sub_le hc hf) h)⟩, sub_le ha hd, sub_le hb he, sub_le hc hf⟩
theorem VB.scale {u : Vec} {x : Nat} {a b c k : Int} {m n : Nat} (hu : VB u a b c m) (hx : WI x k) (hk : k.natAbs ≤ n) (h : m * n < 16777216) : VB (impl_ScaleVector u x) (a * k) (b * k) (c * k) (m * n) := by
  obtain ⟨⟨u1, u2, u3⟩, ha, hb, hc⟩ := hu
  exact ⟨⟨u1.mul hx (Nat.lt_of_le_of_lt (mul_le ha hk) h), u2.mul hx (Nat.lt_of_le_of_lt (mul_le hb hk) h), u3.mul hx (Nat.lt_of_le_of_lt (mul_le hc hk) h)⟩, mul_le ha hk, mul_le hb hk, mul_le hc hk⟩
theorem WI.cross {p q r t : Nat} {a b c d : Int} {m n : Nat} (hp : WI p a) (hq : WI q b) (hr : WI r c) (ht : WI t d) (ha : a.natAbs ≤ m) (hb : b.natAbs ≤ n) (hc : c.natAbs ≤ m) (hd : d.natAbs ≤ n) (h : m * n + m * n < 16777216) :
    WI (fsub .f32 (fmul .f32 p q) (fmul .f32 r t)) (a * b - c * d) ∧ (a * b - c * d).natAbs ≤ m * n + m * n := by
  have h1 := mul_le ha hb
  have h2 := mul_le hc hd
  have hm : m * n < 16777216 := Nat.lt_of_le_of_lt (Nat.le_add_left _ _) h
  exact ⟨(hp.mul hq (Nat.lt_of_le_of_lt h1 hm)).sub (hr.mul ht (Nat.lt_of_le_of_lt h2 hm)) (Nat.lt_of_le_of_lt (sub_le h1 h2) h), sub_le h1 h2⟩
theorem VB.cross {u v : Vec} {a b c d e f : Int} {m n : Nat} (hu : VB u a b c m) (hv : VB v d e f n) (h : m * n + m * n < 16777216) :
    VB (impl_CrossOf u v) (b * f - c * e) (c * d - a * f) (a * e - b * d) (m * n + m * n) := by
  obtain ⟨⟨u1, u2, u3⟩, ha, hb, hc⟩ := hu
  obtain ⟨⟨v1, v2, v3⟩, hd, he, hf⟩ := hv
  obtain ⟨x1, y1⟩ := WI.cross u2 v3 u3 v2 hb hf hc he h
  obtain ⟨x2, y2⟩ := WI.cross u3 v1 u1 v3 hc hd ha hf h
  obtain ⟨x3, y3⟩ := WI.cross u1 v2 u2 v1 ha he hb hd h
  exact ⟨⟨x1, x2, x3⟩, y1, y2, y3⟩
theorem VB.inner {u v : Vec} {a b c d e f : Int} {m n : Nat} (hu : VB u a b c m) (hv : VB v d e f n) (h : m * n + m * n + m * n < 16777216) : WI (impl_InnerOf u v) (a * d + b * e + c * f) := by
  obtain ⟨⟨u1, u2, u3⟩, ha, hb, hc⟩ := hu
  obtain ⟨⟨v1, v2, v3⟩, hd, he, hf⟩ := hv
  have h1 := mul_le ha hd
  have h2 := mul_le hb he
  have h3 := mul_le hc hf
  have e1 : m * n + m * n < 16777216 := Nat.lt_of_le_of_lt (Nat.le_add_right _ _) h
  have e2 : m * n < 16777216 := Nat.lt_of_le_of_lt (Nat.le_add_right _ _) e1
  exact ((u1.mul v1 (Nat.lt_of_le_of_lt h1 e2)).add (u2.mul v2 (Nat.lt_of_le_of_lt h2 e2)) (Nat.lt_of_le_of_lt (add_le h1 h2) e1)).add (u3.mul v3 (Nat.lt_of_le_of_lt h3 e2)) (Nat.lt_of_le_of_lt (add_le (add_le h1 h2) h3) h)

theorem i1 (a f : Int) : f + (a - f) = a := by omega
theorem i2 (a : Int) : a * 2 = a + a := by omega
theorem i3 (a f : Int) : a + (f - a) * 0 = a := by omega
theorem i4 (a f : Int) : a + (f - a) * 1 = f := by omega
theorem i5 (a b c d : Int) : a * b - c * d = (d * c - b * a) * -1 := by grind
theorem i6 (a b e f g h : Int) : (b * h - e * g) * a + (e * f - a * h) * b + (a * g - b * f) * e = 0 := by grind
theorem i7 (a b e f g h : Int) : (b * h - e * g) * f + (e * f - a * h) * g + (a * g - b * f) * h = 0 := by grind

theorem VI.same {u v : Vec} {a b c d e f : Int} (hu : VI u a b c) (hv : VI v d e f) (h1 : a = d) (h2 : b = e) (h3 : c = f) : laws_b10VEqual u v = true := by
  have key : (laws_b10VEqual_tree u v).get = some true := by
    unfold laws_b10VEqual_tree
    simp only [DT.get, hu.1.eq hv.1, hu.2.1.eq hv.2.1, hu.2.2.eq hv.2.2, h1, h2, h3, decide_true]
  exact (DT.of_get key).2

theorem W0 : WI 0 0 := by unfold WI Wh; decide +kernel
theorem W1 : WI 1065353216 1 := by unfold WI Wh; decide +kernel
theorem W2 : WI 1073741824 2 := by unfold WI Wh; decide +kernel
theorem Wm : WI 3212836864 (-1) := by unfold WI Wh; decide +kernel

theorem root_eq (x : Nat) : impl_RootNumber_need x = true ∧ spec_RootNumber_need x = true ∧ impl_RootNumber x = spec_RootNumber x := by
  have hs : ∀ y, math_Sqrt y = fsqrt y := fun _ => rfl
  have k1 : (impl_RootNumber_tree x).get = some (fconv .f64 (fsqrt (fconv .f32 x .f64)) .f32) := by
    unfold impl_RootNumber_tree
    simp only [DT.get, fconvOk_up, hs, root_fits]
  have k0 : spec_l01Narrow_need (fsqrt (fconv .f32 x .f64)) = true ∧ spec_l01Narrow (fsqrt (fconv .f32 x .f64)) = fconv .f64 (fsqrt (fconv .f32 x .f64)) .f32 := by
    have : (spec_l01Narrow_tree (fsqrt (fconv .f32 x .f64))).get = some (fconv .f64 (fsqrt (fconv .f32 x .f64)) .f32) := by
      unfold spec_l01Narrow_tree
      simp only [DT.get, root_fits]
    exact DT.of_get this
  have k2 : spec_l01Sqrt_need x = true ∧ spec_l01Sqrt x = fconv .f64 (fsqrt (fconv .f32 x .f64)) .f32 := by
    have : (spec_l01Sqrt_tree x).get = some (fconv .f64 (fsqrt (fconv .f32 x .f64)) .f32) := by
      unfold spec_l01Sqrt_tree
      simp only [DT.get, fconvOk_up, hs, k0.1, k0.2]
    exact DT.of_get this
  have k3 : (spec_RootNumber_tree x).get = some (fconv .f64 (fsqrt (fconv .f32 x .f64)) .f32) := by
    unfold spec_RootNumber_tree
    simp only [DT.get, k2.1, k2.2]
  obtain ⟨a1, a2⟩ := DT.of_get k1
  obtain ⟨b1, b2⟩ := DT.of_get k3
  exact ⟨a1, b1, a2.trans b2.symm⟩

theorem spec_same (x : Nat) : spec_SameNumber_need x x = true ∧ spec_SameNumber x x = true := by
  have k1 : spec_l01Same_need x x = true ∧ spec_l01Same x x = true := by
    have : (spec_l01Same_tree x x).get = some true := by
      unfold spec_l01Same_tree
      simp only [DT.get, (bits_eq x).2.1, beq_self_eq_true]
    exact DT.of_get this
  have : (spec_SameNumber_tree x x).get = some true := by
    unfold spec_SameNumber_tree
    simp only [DT.get, k1.1, k1.2]
  exact DT.of_get this

set_option maxHeartbeats 1000000 in
theorem vectors_true (c d : List Int) (hc : ∀ x ∈ c, 0 ≤ x ∧ x ≤ 255) (hd : ∀ x ∈ d, 0 ≤ x ∧ x ≤ 255) : laws_FnVectors_need c d = true ∧ laws_FnVectors c d = true := by
  suffices key : (laws_FnVectors_tree c d).get = some true from DT.of_get key
  cases hl : laws_b10Long c d with
  | true =>
    unfold laws_FnVectors_tree
    exact DT.get_yes hl
  | false =>
    have hlen : c.length ≤ 1048576 ∧ d.length ≤ 1048576 := by
      unfold laws_b10Long laws_b10Long_tree at hl
      cases h1 : decide (((List.length c : Nat) : Int) > 1048576) with
      | true => simp only [DT.val, h1] at hl; cases hl
      | false =>
        simp only [DT.val, h1] at hl
        have h1 := of_decide_eq_false h1
        have h2 := of_decide_eq_false hl
        omega
    have Hc : Bytes c := ⟨hlen.1, hc⟩
    have Hd : Bytes d := ⟨hlen.2, hd⟩
    obtain ⟨u, a, b, e, u1, u2, hu, ha, hb, he⟩ := vector_eq Hc
    obtain ⟨v, f, g, h, v1, v2, hv, hf, hg, hh⟩ := vector_eq Hd
    obtain ⟨w, w1, w2, wx, wy, wz⟩ := any_eq Hc
    have hu : VB u a b e 50 := ⟨hu, ha, hb, he⟩
    have hv : VB v f g h 50 := ⟨hv, hf, hg, hh⟩
    clear ha hb he hf hg hh
    have hC := hu.cross hv (by decide)
    have hD := hv.cross hu (by decide)
    have c1 : laws_b10VEqual (impl_AddVectors v (impl_LessVectors u v)) u = true := VI.same (hv.add (hu.less hv (by decide)) (by decide)).1 hu.1 (i1 _ _) (i1 _ _) (i1 _ _)
    have c2 : fne .f32 (impl_InnerOf (impl_CrossOf u v) u) 0 = false := by
      rw [(hC.inner hu (by decide)).ne W0, i6]
      rfl
    have c3 : fne .f32 (impl_InnerOf (impl_CrossOf u v) v) 0 = false := by
      rw [(hC.inner hv (by decide)).ne W0, i7]
      rfl
    have c4 : laws_b10VEqual (impl_CrossOf u v) (impl_ScaleVector (impl_CrossOf v u) 3212836864) = true := VI.same hC.1 (hD.scale Wm (n := 1) (by decide) (by decide)).1 (i5 _ _ _ _) (i5 _ _ _ _) (i5 _ _ _ _)
    have c5 : laws_b10VEqual (impl_ScaleVector u 1073741824) (impl_AddVectors u u) = true := VI.same (hu.scale W2 (n := 2) (by decide) (by decide)).1 (hu.add hu (by decide)).1 (i2 _) (i2 _) (i2 _)
    have hI := hu.inner hu (by decide)
    have hsq : laws_b10Square u = impl_InnerOf u u := rfl
    have c6 : fne .f32 (impl_InnerOf u u) (impl_InnerOf u u) = false := by rw [hI.ne hI]; simp
    obtain ⟨r1, r2, r3⟩ := root_eq (impl_InnerOf u u)
    have s1 : impl_SizeOfVector_need u = true ∧ impl_SizeOfVector u = impl_RootNumber (impl_InnerOf u u) := by
      have : (impl_SizeOfVector_tree u).get = some (impl_RootNumber (impl_InnerOf u u)) := by
        unfold impl_SizeOfVector_tree
        simp only [DT.get, r1]
      exact DT.of_get this
    have hL := hv.less hu (by decide)
    have c7 : laws_b10VEqual (impl_BetweenVectors u v 0) u = true := VI.same (hu.add (hL.scale W0 (n := 0) (by decide) (by decide)) (by decide)).1 hu.1 (i3 _ _) (i3 _ _) (i3 _ _)
    have c8 : laws_b10VEqual (impl_BetweenVectors u v 1065353216) v = true := VI.same (hu.add (hL.scale W1 (n := 1) (by decide) (by decide)) (by decide)).1 hv.1 (i4 _ _) (i4 _ _) (i4 _ _)
    obtain ⟨t1, t2⟩ := vec_impl w ⟨wx.1, wy.1, wz.1⟩
    obtain ⟨x1, x2⟩ := read_vec w wx wy wz
    obtain ⟨y1, y2⟩ := same_vector w
    obtain ⟨z1, z2⟩ := spec_same (spec_RootNumber (impl_InnerOf u u))
    have e26 : (((List.length (vecT w) : Nat) : Int) == 26) = true := by rw [vecT_len]; rfl
    unfold laws_FnVectors_tree
    simp only [DT.get, hl, u1, u2, v1, v2, c1, c2, c3, c4, c5, hsq, c6, s1.1, s1.2, r2, r3, z1, z2, c7, c8, w1, w2, t1, t2, x1, x2, y1, y2, e26, Bool.not_true]

theorem u8_fit {x : Int} (h : (UC.int .u8).fit x) : 0 ≤ x ∧ x ≤ 255 := by
  have h : (decide (IntKind.min .u8 ≤ x) && decide (x ≤ IntKind.max .u8)) = true := h
  rw [show IntKind.min .u8 = 0 from rfl, show IntKind.max .u8 = 255 from rfl, Bool.and_eq_true, decide_eq_true_eq, decide_eq_true_eq] at h
  exact h

theorem plain3 (c : List Int) (_ : c.length ≤ maxLen) (hc : ∀ x ∈ c, (UC.int .u8).fit x) (d : List Int) (_ : d.length ≤ maxLen) (hd : ∀ x ∈ d, (UC.int .u8).fit x) : laws_FnVectors_need c d = true ∧ laws_FnVectors c d = true :=
  vectors_true c d (fun x h => u8_fit (hc x h)) (fun x h => u8_fit (hd x h))

end Go.Proofs.YtacelaaifaffpaaGreatDoor
