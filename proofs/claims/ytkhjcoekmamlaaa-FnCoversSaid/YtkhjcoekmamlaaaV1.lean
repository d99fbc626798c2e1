/- The plain law of FnCovers, part 1: finite numbers, valid orbits, draws. -/
import Derived.Test.YtkhjcoekmamlaaaGCa
import Derived.Test.YtkhjcoekmamlaaaEngY
import Derived.Test.YtkhjcoekmamlaaaFloor
namespace Go.Proofs.Ytkhjcoekmamlaaa
set_option linter.unusedVariables false
set_option linter.unusedSimpArgs false

theorem IsFinite_need (x : Nat) : impl_IsFinite_need x = true := by
  unfold impl_IsFinite_need impl_IsFinite_tree
  simp only [DT.ok, fconvOk_up]

theorem math_Abs_eq {x : Nat} (h : isNaN .f64 x = false) : math_Abs x = fabs x := by
  unfold math_Abs math_Abs_tree
  simp only [DT.val, h]
  rfl

theorem impl_finite_eq (x : Nat) : impl_finite x = isNum .f64 x := by
  unfold impl_finite impl_finite_tree
  have h1 : math_IsNaN x = isNaN .f64 x := fne_self .f64 x
  simp only [DT.val, h1]
  cases hn : isNaN .f64 x with
  | true =>
    rcases kinds .f64 x with ⟨s, m, p, hd, h1, h2⟩ | ⟨s, hd, h1, h2⟩ | ⟨s, t, hd, h1, h2⟩
    · rw [h2] at hn; cases hn
    · rw [h2] at hn; cases hn
    · rw [h1]; rfl
  | false =>
    have h2 : math_IsInf x 0 = fgt .f64 (math_Abs x) 9218868437227405311 := rfl
    rw [h2, math_Abs_eq hn, inf_abs hn]
    simp

theorem IsFinite_eq (x : Nat) : impl_IsFinite x = isNum .f32 x := by
  show impl_finite (fconv .f32 x .f64) = _
  rw [impl_finite_eq, isNum_up]

theorem impl_sine_eq (x : Nat) : impl_sine x = sineOf (impl_behind x) := by
  unfold impl_sine impl_sine_tree sineOf
  generalize impl_behind x = f
  cases h1 : fge .f64 f 4602678819172646912 with
  | true => cases h2 : fgt .f64 (fsub .f64 f 4602678819172646912) 4598175219545276416 <;> simp only [DT.val, h1, h2] <;> rfl
  | false => cases h2 : fgt .f64 f 4598175219545276416 <;> simp only [DT.val, h1, h2] <;> rfl

theorem impl_behind_eq {x : Nat} (hs : Sm .f64 52 x) : impl_behind x = leftOf x := by
  unfold impl_behind impl_behind_tree leftOf
  have h : fadd .f64 (math_Trunc x) 0 = fofInt .f64 (ftoInt .f64 x) := trunc_same (e := 52) (by decide) hs
  simp only [h]
  cases flt .f64 (fsub .f64 x (fofInt .f64 (ftoInt .f64 x))) 0 <;> rfl

def finV (v : Vec) : Bool := isNum .f32 v.X && isNum .f32 v.Y && isNum .f32 v.Z

theorem areFinite_1_eq (i : Nat) : impl_areFinite_1_need i = true ∧ impl_areFinite_1 i = !isNum .f32 i := by
  unfold impl_areFinite_1_need impl_areFinite_1 impl_areFinite_1_tree
  simp only [DT.ok, DT.val, IsFinite_need, IsFinite_eq]
  exact ⟨trivial, trivial⟩

theorem areFinite_eq (l : List Nat) (hl : l.length ≤ 2 ^ 62) : impl_areFinite_need l = true ∧ impl_areFinite l = l.all (isNum .f32) := by
  obtain ⟨h1, h2⟩ := scan_loop (α := Int) (β := Unit) (step := slices_IndexFunc___float32_float32__impl_areFinite_1_loop0_step (l, ((l.length : Nat) : Int))) l.length (fun i => bif isNum .f32 (l.getD i default) then none else some (i : Int)) () (fun i hi => by
    refine ⟨[], ?_⟩
    unfold slices_IndexFunc___float32_float32__impl_areFinite_1_loop0_step
    simp only [DT.get, nat_dec hi, nat_in hi, (areFinite_1_eq _).1, (areFinite_1_eq _).2, Int.toNat_natCast, nat_next hi hl]
    cases isNum .f32 (l.getD i default) <;> rfl) ⟨[], by
    unfold slices_IndexFunc___float32_float32__impl_areFinite_1_loop0_step
    simp only [DT.get, nat_not]⟩
  have hall := firstOf_all (isNum .f32) (fun i => (i : Int)) default l
  have h1 : slices_IndexFunc___float32_float32__impl_areFinite_1_loop0_ends (l, ((l.length : Nat) : Int)) 0 = true := h1
  have h2 : slices_IndexFunc___float32_float32__impl_areFinite_1_loop0 (l, ((l.length : Nat) : Int)) 0 = _ := h2
  have key : slices_IndexFunc___float32_float32__impl_areFinite_1_need l = true ∧ decide (slices_IndexFunc___float32_float32__impl_areFinite_1 l ≥ 0) = !l.all (isNum .f32) := by
    unfold slices_IndexFunc___float32_float32__impl_areFinite_1_need slices_IndexFunc___float32_float32__impl_areFinite_1 slices_IndexFunc___float32_float32__impl_areFinite_1_tree
    simp only [DT.ok, DT.val, h1, h2]
    rw [← hall]
    cases hf : firstOf (fun i => bif isNum .f32 (l.getD i default) then none else some (i : Int)) l.length with
    | none => constructor <;> first | trivial | rfl
    | some a =>
      have ha : 0 ≤ a := by
        unfold firstOf at hf
        obtain ⟨i, _, hi⟩ := List.exists_of_findSome?_eq_some hf
        cases hq : isNum .f32 (l.getD i default) <;> rw [hq] at hi
        · simp only [cond_false, Option.some.injEq] at hi; omega
        · cases hi
      simp only [isL, leftD]
      exact ⟨trivial, decide_eq_true ha⟩
  have key2 : slices_ContainsFunc___float32_float32__impl_areFinite_1_need l = true ∧ slices_ContainsFunc___float32_float32__impl_areFinite_1 l = !l.all (isNum .f32) := by
    unfold slices_ContainsFunc___float32_float32__impl_areFinite_1_need slices_ContainsFunc___float32_float32__impl_areFinite_1 slices_ContainsFunc___float32_float32__impl_areFinite_1_tree
    simp only [DT.ok, DT.val, key.1, key.2]
    exact ⟨trivial, trivial⟩
  unfold impl_areFinite_need impl_areFinite impl_areFinite_tree
  simp only [DT.ok, DT.val, key2.1, key2.2, Bool.not_not]
  exact ⟨trivial, trivial⟩

theorem isFiniteVector_eq (v : Vec) : impl_isFiniteVector_need v = true ∧ impl_isFiniteVector v = finV v := by
  have h := areFinite_eq [v.X, v.Y, v.Z] (by show 3 ≤ 2 ^ 62; decide)
  have ha : [v.X, v.Y, v.Z].all (isNum .f32) = finV v := by
    unfold finV
    simp only [List.all_cons, List.all_nil, Bool.and_true, Bool.and_assoc]
  have e : impl_Vector_numbers (⟨v.X, v.Y, v.Z⟩ : Vec) = [v.X, v.Y, v.Z] := rfl
  unfold impl_isFiniteVector_need impl_isFiniteVector impl_isFiniteVector_tree
  simp only [DT.ok, DT.val, e, h.1, h.2, ha]
  exact ⟨trivial, trivial⟩

def turnB (x : Nat) : Bool := fge .f32 x 0 && flt .f32 x 1065353216

def validO (o : Orbit) : Bool := isNum .f32 o.Long && (isNum .f32 o.Round && ((fge .f32 o.Tilt 0 && fle .f32 o.Tilt 1056964608) && (turnB o.Node && (turnB o.Peri && match fgt .f32 o.Long 0 with
  | true => fge .f32 o.Round 0 && (flt .f32 o.Round 1065353216 && turnB o.Phase)
  | false => flt .f32 o.Long 0 && (fgt .f32 o.Round 1065353216 && (fge .f32 o.Phase 3246391296 && fle .f32 o.Phase 1098907648))))))

theorem isTurn_eq (x : Nat) : impl_isTurn x = turnB x := by
  unfold impl_isTurn impl_isTurn_tree turnB
  cases h : fge .f32 x 0 <;> simp only [DT.val, h] <;> rfl

theorem consts32 : isNum .f32 0 = true ∧ isNum .f32 1065353216 = true ∧ isNum .f32 1056964608 = true ∧ isNum .f32 3246391296 = true ∧ isNum .f32 1098907648 = true := by decide +kernel

theorem turn_num {x : Nat} (h : turnB x = true) : isNum .f32 x = true := by
  unfold turnB at h
  rw [Bool.and_eq_true] at h
  exact num_between consts32.1 consts32.2.1 h.1 (.inl h.2)

theorem fgt_flt {x : Nat} (h : fgt .f32 x 0 = true) : flt .f32 x 0 = false := by
  unfold fgt at h
  unfold flt
  cases hx : FloatKind.f32.format.order x 0 with
  | none => rw [hx] at h; cases h
  | some o => rw [hx] at h; cases o <;> first | rfl | cases h

theorem ValidOrbit_eq (o : Orbit) : impl_ValidOrbit_need o = true ∧ impl_ValidOrbit o = validO o := by
  obtain ⟨a1, a2⟩ := areFinite_eq [o.Long, o.Round, o.Tilt, o.Node, o.Peri, o.Phase] (by show 6 ≤ 2 ^ 62; decide)
  refine ⟨?_, ?_⟩
  · unfold impl_ValidOrbit_need impl_ValidOrbit_tree
    simp only [DT.ok, a1, a2]
    repeat' split
    all_goals rfl
  · have he : impl_Orbit_isEllipse o = (fgt .f32 o.Long 0 && (fge .f32 o.Round 0 && (flt .f32 o.Round 1065353216 && turnB o.Phase))) := by
      unfold impl_Orbit_isEllipse impl_Orbit_isEllipse_tree
      simp only [isTurn_eq]
      cases fgt .f32 o.Long 0 <;> cases fge .f32 o.Round 0 <;> cases flt .f32 o.Round 1065353216 <;> rfl
    have hb : impl_Orbit_isBranch o = (flt .f32 o.Long 0 && (fgt .f32 o.Round 1065353216 && (fge .f32 o.Phase 3246391296 && fle .f32 o.Phase 1098907648))) := by
      unfold impl_Orbit_isBranch impl_Orbit_isBranch_tree
      cases flt .f32 o.Long 0 <;> cases fgt .f32 o.Round 1065353216 <;> cases fge .f32 o.Phase 3246391296 <;> rfl
    cases hv : validO o with
    | true =>
      have hv0 := hv
      unfold validO at hv
      simp only [Bool.and_eq_true] at hv
      obtain ⟨h1, h2, ⟨h3, h4⟩, h5, h6, h7⟩ := hv
      have n3 := num_between consts32.1 consts32.2.2.1 h3 (.inr h4)
      have n6 : isNum .f32 o.Phase = true := by
        cases hg : fgt .f32 o.Long 0 with
        | true =>
          rw [hg] at h7
          simp only [Bool.and_eq_true] at h7
          exact turn_num h7.2.2
        | false =>
          rw [hg] at h7
          simp only [Bool.and_eq_true] at h7
          exact num_between consts32.2.2.2.1 consts32.2.2.2.2 h7.2.2.1 (.inr h7.2.2.2)
      have hall : [o.Long, o.Round, o.Tilt, o.Node, o.Peri, o.Phase].all (isNum .f32) = true := by
        simp only [List.all_cons, List.all_nil, h1, h2, n3, turn_num h5, turn_num h6, n6, Bool.and_self]
      have hor : (impl_Orbit_isEllipse o || impl_Orbit_isBranch o) = true := by
        rw [he, hb]
        cases hg : fgt .f32 o.Long 0 with
        | true =>
          rw [hg] at h7
          have h7 : (fge .f32 o.Round 0 && (flt .f32 o.Round 1065353216 && turnB o.Phase)) = true := h7
          rw [h7]
          rfl
        | false =>
          rw [hg] at h7
          have h7 : (flt .f32 o.Long 0 && (fgt .f32 o.Round 1065353216 && (fge .f32 o.Phase 3246391296 && fle .f32 o.Phase 1098907648))) = true := h7
          rw [h7]
          rfl
      have he' : impl_Orbit_isEllipse (⟨o.Long, o.Round, o.Tilt, o.Node, o.Peri, o.Phase⟩ : Orbit) = impl_Orbit_isEllipse o := rfl
      have hb' : impl_Orbit_isBranch (⟨o.Long, o.Round, o.Tilt, o.Node, o.Peri, o.Phase⟩ : Orbit) = impl_Orbit_isBranch o := rfl
      unfold impl_ValidOrbit impl_ValidOrbit_tree
      simp only [DT.val, a2, hall, h3, h4, isTurn_eq, h5, h6, he', hb']
      cases hq : impl_Orbit_isEllipse o with
      | true => rfl
      | false => rw [hq, Bool.false_or] at hor; exact hor
    | false =>
      have he' : impl_Orbit_isEllipse (⟨o.Long, o.Round, o.Tilt, o.Node, o.Peri, o.Phase⟩ : Orbit) = impl_Orbit_isEllipse o := rfl
      have hb' : impl_Orbit_isBranch (⟨o.Long, o.Round, o.Tilt, o.Node, o.Peri, o.Phase⟩ : Orbit) = impl_Orbit_isBranch o := rfl
      have hform : impl_ValidOrbit o = (([o.Long, o.Round, o.Tilt, o.Node, o.Peri, o.Phase].all (isNum .f32)) && ((fge .f32 o.Tilt 0 && fle .f32 o.Tilt 1056964608) && (turnB o.Node && (turnB o.Peri && (impl_Orbit_isEllipse o || impl_Orbit_isBranch o))))) := by
        unfold impl_ValidOrbit impl_ValidOrbit_tree
        simp only [a2, isTurn_eq, he', hb']
        generalize [o.Long, o.Round, o.Tilt, o.Node, o.Peri, o.Phase].all (isNum .f32) = c
        generalize turnB o.Node = t1
        generalize turnB o.Peri = t2
        cases c <;> cases fge .f32 o.Tilt 0 <;> cases fle .f32 o.Tilt 1056964608 <;> cases t1 <;> cases t2 <;> cases impl_Orbit_isEllipse o <;> rfl
      rw [hform]
      refine Bool.eq_false_iff.2 fun ht => ?_
      simp only [Bool.and_eq_true, List.all_cons] at ht
      obtain ⟨⟨h1, h2, _⟩, ⟨h3, h4⟩, h5, h6, h7⟩ := ht
      rw [he, hb] at h7
      unfold validO at hv
      rw [h1, h2, h3, h4, h5, h6] at hv
      cases hg : fgt .f32 o.Long 0 with
      | true =>
        rw [hg, fgt_flt hg, Bool.false_and, Bool.or_false, Bool.true_and] at h7
        rw [hg] at hv
        simp only [Bool.true_and] at hv
        rw [h7] at hv
        cases hv
      | false =>
        rw [hg, Bool.false_and, Bool.false_or] at h7
        rw [hg] at hv
        simp only [Bool.true_and] at hv
        rw [h7] at hv
        cases hv

def Bytes (c : List Int) : Prop := c.length ≤ 1048576 ∧ ∀ x ∈ c, 0 ≤ x ∧ x ≤ 255

theorem Bytes.at {c : List Int} (h : Bytes c) (i : Nat) (hi : i < c.length) : 0 ≤ c.getD i default ∧ c.getD i default ≤ 255 := by
  rw [List.getD_eq_getElem?_getD, List.getElem?_eq_getElem hi]
  exact h.2 _ (List.getElem_mem hi)

theorem and255 (y : Int) : 0 ≤ IntKind.wrap .i64 (IntKind.wrap .u64 ((BitVec.ofInt (IntKind.bits .u64) y &&& BitVec.ofInt (IntKind.bits .u64) 255).toNat : Int)) ∧ IntKind.wrap .i64 (IntKind.wrap .u64 ((BitVec.ofInt (IntKind.bits .u64) y &&& BitVec.ofInt (IntKind.bits .u64) 255).toNat : Int)) ≤ 255 := by
  have h : (BitVec.ofInt (IntKind.bits .u64) y &&& BitVec.ofInt (IntKind.bits .u64) 255).toNat ≤ 255 := by
    rw [BitVec.toNat_and]
    exact Nat.le_trans Nat.and_le_right (by decide)
  generalize (BitVec.ofInt (IntKind.bits .u64) y &&& BitVec.ofInt (IntKind.bits .u64) 255).toNat = t at *
  have e : IntKind.wrap .u64 ((t : Nat) : Int) = ((t : Nat) : Int) := by
    show ((t : Nat) : Int) % 18446744073709551616 = _
    omega
  rw [e, wrap_small (by omega) (by omega)]
  omega

theorem next_ok {c : List Int} (hc : Bytes c) {a : Int} (s : Int) (h0 : 0 ≤ a) (h1 : a ≤ 2 ^ 40) : ∃ v s', (spec_l00Src_next_tree c a s).get = some (v, a + 1, s') ∧ 0 ≤ v ∧ v ≤ 255 := by
  have hl := hc.1
  have hw : IntKind.wrap .i64 (a + 1) = a + 1 := wrap_small (by omega) (by omega)
  unfold spec_l00Src_next_tree
  simp only [hw]
  by_cases hlt : a < ((c.length : Nat) : Int)
  · have d1 : decide (a < ((c.length : Nat) : Int)) = true := decide_eq_true hlt
    have d2 : decide (0 ≤ a) = true := decide_eq_true h0
    have d3 : decide (a + 1 ≤ ((c.length : Nat) : Int)) = true := decide_eq_true (by omega)
    have hb := hc.at a.toNat (by omega)
    simp only [DT.get, d1, d2, d3, Bool.and_true]
    refine ⟨_, _, rfl, ?_⟩
    rw [wrap_small (by omega) (by omega)]
    exact hb
  · have d1 : decide (a < ((c.length : Nat) : Int)) = false := decide_eq_false hlt
    have d3 : decide (a + 1 ≤ ((c.length : Nat) : Int)) = false := decide_eq_false (by omega)
    simp only [DT.get, d1, d3]
    exact ⟨_, _, rfl, and255 _⟩

theorem next_eq {c : List Int} (hc : Bytes c) {a : Int} (s : Int) (h0 : 0 ≤ a) (h1 : a ≤ 2 ^ 40) : ∃ v s', spec_l00Src_next_need c a s = true ∧ spec_l00Src_next c a s = (v, a + 1, s') ∧ 0 ≤ v ∧ v ≤ 255 := by
  obtain ⟨v, s', h, hv⟩ := next_ok hc s h0 h1
  obtain ⟨k1, k2⟩ := DT.of_get h
  exact ⟨v, s', k1, k2, hv⟩

theorem pick_eq {c : List Int} (hc : Bytes c) {a : Int} (s : Int) {n : Int} (h0 : 0 ≤ a) (h1 : a ≤ 2 ^ 39) (hn : 2 ≤ n) (hn2 : n ≤ 2 ^ 40) :
    ∃ v a' s', spec_l00Src_pick_need c a s n = true ∧ spec_l00Src_pick c a s n = (v, a', s') ∧ 0 ≤ v ∧ v < n ∧ a ≤ a' ∧ a' ≤ a + 2 := by
  obtain ⟨v, s1, n1, n2, hv0, hv1⟩ := next_eq hc s h0 (by omega)
  have d1 : decide (n ≤ 1) = false := decide_eq_false (by omega)
  have d3 : (n != 0) = true := by simp; omega
  have key : ∃ v a' s', (spec_l00Src_pick_tree c a s n).get = some (v, a', s') ∧ 0 ≤ v ∧ v < n ∧ a ≤ a' ∧ a' ≤ a + 2 := by
    unfold spec_l00Src_pick_tree
    by_cases hg : n > 200
    · have d2 : decide (n > 200) = true := decide_eq_true hg
      obtain ⟨v2, s2, m1, m2, hw0, hw1⟩ := next_eq hc s1 (a := a + 1) (by omega) (by omega)
      simp only [DT.get, d1, n1, n2, d2, m1, m2, d3]
      refine ⟨_, _, _, rfl, ?_, ?_, by omega, by omega⟩
      · rw [wrap_small (n := v * 256) (by omega) (by omega), wrap_small (by omega) (by omega)]
        exact Int.tmod_nonneg _ (by omega)
      · exact Int.tmod_lt_of_pos _ (by omega)
    · have d2 : decide (n > 200) = false := decide_eq_false hg
      simp only [DT.get, d1, n1, n2, d2, d3]
      exact ⟨_, _, _, rfl, Int.tmod_nonneg _ hv0, Int.tmod_lt_of_pos _ (by omega), by omega, by omega⟩
  obtain ⟨v, a', s', h, hv⟩ := key
  obtain ⟨k1, k2⟩ := DT.of_get h
  exact ⟨v, a', s', k1, k2, hv⟩

theorem fin_of {v : Int} {n : Nat} (h0 : 0 ≤ v) (h1 : v < (n : Int)) : ∃ k : Fin n, v = (k.val : Int) := ⟨⟨v.toNat, by omega⟩, by show v = ((v.toNat : Nat) : Int); omega⟩

theorem at_eq {c : List Int} (hc : Bytes c) (k n : Int) (h0 : 0 ≤ k) (hn : 2 ≤ n) (hn2 : n ≤ 1000) : laws_r8At_need c k n = true ∧ 0 ≤ laws_r8At c k n ∧ laws_r8At c k n < n := by
  have d1 : decide (n ≤ 1) = false := decide_eq_false (by omega)
  have d2 : decide (0 ≤ k) = true := decide_eq_true h0
  have d3 : (n != 0) = true := by simp; omega
  have key : ∃ v, (laws_r8At_tree c k n).get = some v ∧ 0 ≤ v ∧ v < n := by
    unfold laws_r8At_tree
    by_cases g : k < ((c.length : Nat) : Int)
    · have g1 : decide (k ≥ ((c.length : Nat) : Int)) = false := decide_eq_false (by omega)
      have hb := hc.at k.toNat (by omega)
      simp only [DT.get, d1, g1, d2, decide_eq_true g, d3, Bool.and_true]
      rw [wrap_small (by omega) (by omega)]
      exact ⟨_, rfl, Int.tmod_nonneg _ hb.1, Int.tmod_lt_of_pos _ (by omega)⟩
    · have g1 : decide (k ≥ ((c.length : Nat) : Int)) = true := decide_eq_true (by omega)
      simp only [DT.get, d1, g1]
      exact ⟨_, rfl, by omega, by omega⟩
  obtain ⟨v, h, hv⟩ := key
  obtain ⟨k1, k2⟩ := DT.of_get h
  have k2 : laws_r8At c k n = v := k2
  rw [k2]
  exact ⟨k1, hv⟩

theorem RootN_eq {x : Nat} (h1 : fconvOk .f32 x .f64 = true) (h2 : fconvOk .f64 (fsqrt (fconv .f32 x .f64)) .f32 = true) : impl_RootNumber_need x = true ∧ impl_RootNumber x = rootN x := by
  have e : math_Sqrt (fconv .f32 x .f64) = fsqrt (fconv .f32 x .f64) := rfl
  unfold impl_RootNumber_need impl_RootNumber impl_RootNumber_tree
  simp only [DT.ok, DT.val, h1, h2, e]
  exact ⟨trivial, rfl⟩

theorem abs_R {x : Nat} {a b : Rat} (h : I .f64 x (some (a, b))) (ha : 0 ≤ a) : I .f64 (math_Abs x) (some (a, b)) := by
  have hn : isNaN .f64 x = false := by
    obtain ⟨s, m, p, hd⟩ := isNum_iff.1 h.1
    unfold isNaN; rw [hd]; rfl
  rw [math_Abs_eq hn]
  obtain ⟨f1, f2⟩ := fabs_num h.1
  have h0 : 0 ≤ V .f64 x := by
    rw [← Int.not_lt]
    intro g
    have z : V .f64 0 = 0 := by decide +kernel
    have hz : isNum .f64 0 = true ∧ R .f64 0 = 0 := by decide +kernel
    rw [← z, lt_R h.1 hz.1, hz.2] at g
    have := h.2.1
    grind
  have e : R .f64 (fabs x) = R .f64 x := (eq_R f1 h.1).1 (by rw [f2]; omega)
  exact ⟨f1, by rw [e]; exact h.2.1, by rw [e]; exact h.2.2⟩

theorem sine_I {x : Nat} {a b : Rat} (h : I .f64 x (some (a, b))) (h1 : -1000000 ≤ a) (h2 : b ≤ 1000000) : I .f64 (impl_sine x) (some (-1571 / 1000, 1571 / 1000)) := by
  have hb : Bd (R .f64 x) 4503599627370495 := by have := h.2.1; have := h.2.2; unfold Bd; constructor <;> grind
  rw [impl_sine_eq, impl_behind_eq (sm52 h.1 hb)]
  exact sineOf_bd (leftOf_bd h.1 hb)

structure OrbS (o : Orbit) : Prop where
  long : I .f32 o.Long (some (1, 3))
  round : I .f32 o.Round (some (0, 5 / 8))
  tilt : I .f32 o.Tilt (some (0, 1 / 2))
  node : I .f32 o.Node (some (0, 1))
  peri : I .f32 o.Peri (some (0, 1))
  phase : I .f32 o.Phase (some (0, 1))
  ok : validO o = true

theorem k_zero32 : I .f32 0 (some (0, 0)) := I.at (by decide +kernel)

theorem OrbS.gt {o : Orbit} (h : OrbS o) : fgt .f32 o.Long 0 = true := I.gt h.long k_zero32 (by decide +kernel)

theorem rate_I {o : Orbit} {m : Nat} (h : OrbS o) (hm : I .f64 m (some (1 / 2, 4))) : impl_Orbit_rate_need o m = true ∧ I .f64 (impl_Orbit_rate o m) (some (1 / 10, 21 / 10)) := by
  have a := abs_R h.long.up (by decide +kernel)
  have a2 := (I.sq a).to (lo := 999 / 1000) (hi := 91 / 10) (by decide +kernel)
  have a3 := (I.mul a2 a).to (lo := 99 / 100) (hi := 28) (by decide +kernel)
  have q := (I.div hm a3).to (lo := 1 / 60) (hi := 41 / 10) (by decide +kernel)
  have s := (I.sqrt (12 / 100) (205 / 100) q).to (lo := 1 / 10) (hi := 21 / 10) (by decide +kernel)
  have e : math_Sqrt (fdiv .f64 m (fmul .f64 (fmul .f64 (math_Abs (fconv .f32 o.Long .f64)) (math_Abs (fconv .f32 o.Long .f64))) (math_Abs (fconv .f32 o.Long .f64)))) = fsqrt (fdiv .f64 m (fmul .f64 (fmul .f64 (math_Abs (fconv .f32 o.Long .f64)) (math_Abs (fconv .f32 o.Long .f64))) (math_Abs (fconv .f32 o.Long .f64)))) := rfl
  unfold impl_Orbit_rate_need impl_Orbit_rate impl_Orbit_rate_tree
  simp only [DT.ok, DT.val, fconvOk_up]
  exact ⟨trivial, s⟩

theorem aLength_I {m : Nat} {a b : Rat} (hm : I .f32 m (some (a, b))) (ha : 0 < a) : impl_aLength_need m = true ∧ impl_aLength m = true := by
  have hg := I.gt hm k_zero32 ha
  unfold impl_aLength_need impl_aLength impl_aLength_tree
  simp only [DT.ok, DT.val, IsFinite_need, IsFinite_eq, hm.1, hg]
  exact ⟨trivial, trivial⟩

theorem around_I {o : Orbit} {m : Nat} (hv : validO o = true) (hm : I .f32 m (some (1 / 2, 4))) : impl_Orbit_isAround_need o m = true ∧ impl_Orbit_isAround o m = true := by
  obtain ⟨v1, v2⟩ := ValidOrbit_eq o
  rw [hv] at v2
  obtain ⟨a1, a2⟩ := aLength_I hm (by decide +kernel)
  have e : (⟨o.Long, o.Round, o.Tilt, o.Node, o.Peri, o.Phase⟩ : Orbit) = o := rfl
  unfold impl_Orbit_isAround_need impl_Orbit_isAround impl_Orbit_isAround_tree
  simp only [DT.ok, DT.val, e, v1, v2, a1, a2]
  exact ⟨trivial, trivial⟩

def VecI (v : Vec) (M : Rat) : Prop := I .f32 v.X (some (-M, M)) ∧ I .f32 v.Y (some (-M, M)) ∧ I .f32 v.Z (some (-M, M))

theorem VecI.fin {v : Vec} {M : Rat} (h : VecI v M) : finV v = true := by unfold finV; rw [h.1.1, h.2.1.1, h.2.2.1]; rfl

theorem k_one32 : I .f32 1065353216 (some (1, 1)) := I.at (by decide +kernel)

theorem narrow_I {x : Nat} (hx : isNum .f64 x = true) (h0 : 0 ≤ R .f64 x) (h1 : R .f64 x ≤ 2) : impl_narrowTurn_need x = true ∧ turnB (impl_narrowTurn x) = true ∧ I .f32 (impl_narrowTurn x) (some (0, 1)) := by
  have hI : I .f64 x (some (0, 2)) := ⟨hx, h0, h1⟩
  have f1 := I.fits hI (by decide +kernel) (by decide +kernel)
  have d1 := (I.down hI).to (lo := -1) (hi := 3) (by decide +kernel)
  have d0 := down_nn hx h0
  have e : impl_narrowTurn_need x = true ∧ impl_narrowTurn x = match fge .f32 (fconv .f64 x .f32) 1065353216 with
    | true => 0
    | false => fconv .f64 x .f32 := by
    unfold impl_narrowTurn_need impl_narrowTurn impl_narrowTurn_tree
    cases hg : fge .f32 (fconv .f64 x .f32) 1065353216 <;> simp only [DT.ok, DT.val, f1, hg] <;> exact ⟨trivial, trivial⟩
  refine ⟨e.1, ?_⟩
  rw [e.2]
  cases hg : fge .f32 (fconv .f64 x .f32) 1065353216 with
  | true => exact ⟨(by decide +kernel : turnB 0 = true), (I.at (by decide +kernel) : I .f32 0 (some (0, 1)))⟩
  | false =>
    rw [fge_R d1.1 k_one32.1] at hg
    have h2 := of_decide_eq_false hg
    have o1 := k_one32.2.1
    have o2 := k_one32.2.2
    have z1 := k_zero32.2.2
    refine ⟨?_, d1.1, d0, by grind⟩
    unfold turnB
    rw [fge_R d1.1 k_zero32.1, flt_R d1.1 k_one32.1, Bool.and_eq_true]
    exact ⟨decide_eq_true (by grind), decide_eq_true (by grind)⟩

theorem OrbS.phased {o : Orbit} (h : OrbS o) {p : Nat} (hp : turnB p = true) (hI : I .f32 p (some (0, 1))) : OrbS ⟨o.Long, o.Round, o.Tilt, o.Node, o.Peri, p⟩ := by
  refine ⟨h.long, h.round, h.tilt, h.node, h.peri, hI, ?_⟩
  have hv := h.ok
  unfold validO at hv ⊢
  rw [h.gt] at hv
  simp only [h.gt]
  simp only [Bool.and_eq_true] at hv ⊢
  obtain ⟨a, b, c, d, e, f, g, _⟩ := hv
  exact ⟨a, b, c, d, e, f, g, hp⟩

theorem valid_I {o : Orbit} (h : validO o = true) : impl_Orbit_valid_need o = true ∧ impl_Orbit_valid o = (o, true) := by
  obtain ⟨v1, v2⟩ := ValidOrbit_eq o
  rw [h] at v2
  have e : (⟨o.Long, o.Round, o.Tilt, o.Node, o.Peri, o.Phase⟩ : Orbit) = o := rfl
  unfold impl_Orbit_valid_need impl_Orbit_valid impl_Orbit_valid_tree
  simp only [DT.ok, DT.val, e, v1, v2]
  exact ⟨rfl, rfl⟩

theorem later_I {o : Orbit} {m t : Nat} (h : OrbS o) (hm : I .f32 m (some (1 / 2, 4))) (ht : I .f32 t (some (0, 2))) : impl_LaterOrbit_need o m t = true ∧ ∃ o', impl_LaterOrbit o m t = (o', true) ∧ OrbS o' := by
  obtain ⟨r1, r2⟩ := rate_I h hm.up
  obtain ⟨a1, a2⟩ := around_I h.ok hm
  have hgt := h.gt
  have x6 := (I.mul r2 ht.up).to (lo := -1 / 100) (hi := 5) (by decide +kernel)
  have x7 := (I.div x6 k_turn).to (lo := -1 / 100) (hi := 1) (by decide +kernel)
  have x8 := (I.add h.phase.up x7).to (lo := -1) (hi := 3) (by decide +kernel)
  have hb : Bd (R .f64 (fadd .f64 (fconv .f32 o.Phase .f64) (fdiv .f64 (fmul .f64 (impl_Orbit_rate o (fconv .f32 m .f64)) (fconv .f32 t .f64)) 4618760256179416344))) 2000000000000000 := by
    have := x8.2.1; have := x8.2.2; unfold Bd; constructor <;> grind
  have w := wrap_R x8.1 hb
  obtain ⟨n1, n2, n3⟩ := narrow_I w.1 w.2.1 (by have := w.2.2; grind)
  have hO := h.phased n2 n3
  obtain ⟨v1, v2⟩ := valid_I hO.ok
  have e : (⟨o.Long, o.Round, o.Tilt, o.Node, o.Peri, o.Phase⟩ : Orbit) = o := rfl
  have ew : impl_wrap (fadd .f64 (fconv .f32 o.Phase .f64) (fdiv .f64 (fmul .f64 (impl_Orbit_rate o (fconv .f32 m .f64)) (fconv .f32 t .f64)) 4618760256179416344)) = fsub .f64 (fadd .f64 (fconv .f32 o.Phase .f64) (fdiv .f64 (fmul .f64 (impl_Orbit_rate o (fconv .f32 m .f64)) (fconv .f32 t .f64)) 4618760256179416344)) (ffloor (fadd .f64 (fconv .f32 o.Phase .f64) (fdiv .f64 (fmul .f64 (impl_Orbit_rate o (fconv .f32 m .f64)) (fconv .f32 t .f64)) 4618760256179416344))) := rfl
  generalize hy : fadd .f64 (fconv .f32 o.Phase .f64) (fdiv .f64 (fmul .f64 (impl_Orbit_rate o (fconv .f32 m .f64)) (fconv .f32 t .f64)) 4618760256179416344) = y at *
  refine ⟨?_, _, ?_, hO⟩
  · unfold impl_LaterOrbit_need impl_LaterOrbit_tree
    simp only [DT.ok, e, a1, a2, IsFinite_need, IsFinite_eq, ht.1, fconvOk_up, r1, hgt, hy, ew, n1, v1, Bool.not_true]
  · unfold impl_LaterOrbit impl_LaterOrbit_tree
    simp only [DT.val, e, a2, IsFinite_eq, ht.1, hgt, hy, ew, v2, Bool.not_true]

theorem num_nan {k : FloatKind} {x : Nat} (h : isNum k x = true) : isNaN k x = false := by
  obtain ⟨s, m, p, hd⟩ := isNum_iff.1 h
  unfold isNaN; rw [hd]; rfl

structure BallS (b : Ball) : Prop where
  mass : I .f32 b.Mass (some (1 / 2, 4))
  radius : I .f32 b.Radius (some (1 / 8, 1))
  spin : I .f32 b.Spin (some (-1 / 8, 1 / 8))
  start : I .f32 b.Start (some (-1 / 2, 1 / 2))

theorem BallS.valid {b : Ball} (h : BallS b) : impl_ValidBall_need b = true ∧ impl_ValidBall b = true := by
  obtain ⟨a1, a2⟩ := aLength_I h.mass (by decide +kernel)
  obtain ⟨a3, a4⟩ := aLength_I h.radius (by decide +kernel)
  obtain ⟨f1, f2⟩ := areFinite_eq [b.Spin, b.Start] (by show 2 ≤ 2 ^ 62; decide)
  have f2 : impl_areFinite [b.Spin, b.Start] = true := by rw [f2]; simp only [List.all_cons, List.all_nil, h.spin.1, h.start.1, Bool.and_self]
  obtain ⟨l1, l2⟩ := loop_post (step := impl_areLengths_loop0_step ([b.Mass, b.Radius], 2)) (fun s => s = 0 ∨ s = 1 ∨ s = 2) (fun s => (2 - s).toNat) (fun r => r = .inr ()) (by
    rintro s (rfl | rfl | rfl)
    · refine ⟨.inl 1, [], ?_, .inr (.inl rfl), by decide⟩
      have e : List.getD [b.Mass, b.Radius] (Int.toNat 0) default = b.Mass := rfl
      unfold impl_areLengths_loop0_step
      simp only [DT.get, e, a1, a2]
      rfl
    · refine ⟨.inl 2, [], ?_, .inr (.inr rfl), by decide⟩
      have e : List.getD [b.Mass, b.Radius] (Int.toNat 1) default = b.Radius := rfl
      unfold impl_areLengths_loop0_step
      simp only [DT.get, e, a3, a4]
      rfl
    · exact ⟨.inr (.inr ()), [], rfl, rfl⟩) 0 (.inl rfl)
  have l1 : impl_areLengths_loop0_ends ([b.Mass, b.Radius], 2) 0 = true := l1
  have l2 : impl_areLengths_loop0 ([b.Mass, b.Radius], 2) 0 = .inr () := l2
  have k : impl_areLengths_need [b.Mass, b.Radius] = true ∧ impl_areLengths [b.Mass, b.Radius] = true := by
    have e : ((List.length [b.Mass, b.Radius] : Nat) : Int) = 2 := rfl
    unfold impl_areLengths_need impl_areLengths impl_areLengths_tree
    simp only [DT.ok, DT.val, e, l1, l2, isL]
    exact ⟨trivial, trivial⟩
  unfold impl_ValidBall_need impl_ValidBall impl_ValidBall_tree
  simp only [DT.ok, DT.val, k.1, k.2, f1, f2]
  exact ⟨trivial, trivial⟩

def markB (m : Mark) : Bool := fge .f32 m.North 3196059648 && (fle .f32 m.North 1048576000 && (fge .f32 m.East 3204448256 && (flt .f32 m.East 1056964608 && isNum .f32 m.High)))

theorem ValidMark_eq (m : Mark) : impl_ValidMark_need m = true ∧ impl_ValidMark m = markB m := by
  unfold impl_ValidMark_need impl_ValidMark impl_ValidMark_tree markB
  simp only [IsFinite_need, IsFinite_eq]
  generalize fge .f32 m.North 3196059648 = p
  generalize fle .f32 m.North 1048576000 = q
  generalize fge .f32 m.East 3204448256 = r
  generalize flt .f32 m.East 1056964608 = s
  generalize isNum .f32 m.High = t
  cases p <;> cases q <;> cases r <;> cases s <;> constructor <;> rfl

theorem k_half32 : I .f32 1056964608 (some (1 / 2, 1 / 2)) := I.at (by decide +kernel)

theorem k_mhalf32 : I .f32 3204448256 (some (-1 / 2, -1 / 2)) := I.at (by decide +kernel)

theorem k_quart32 : I .f32 1048576000 (some (1 / 4, 1 / 4)) := I.at (by decide +kernel)

theorem k_mquart32 : I .f32 3196059648 (some (-1 / 4, -1 / 4)) := I.at (by decide +kernel)

theorem Root_need (x : Nat) : impl_RootNumber_need x = true := by
  have e : math_Sqrt (fconv .f32 x .f64) = fsqrt (fconv .f32 x .f64) := rfl
  unfold impl_RootNumber_need impl_RootNumber_tree
  simp only [DT.ok, fconvOk_up, e, root_fits]

theorem Size_need (v : Vec) : impl_SizeOfVector_need v = true := by
  unfold impl_SizeOfVector_need impl_SizeOfVector_tree
  simp only [DT.ok, Root_need]

theorem face_I {b : Ball} {t : Nat} (h : BallS b) (ht : I .f32 t (some (0, 2))) : I .f32 (impl_Ball_face b t) (some (-1, 1)) :=
  (I.add h.start (I.mul h.spin ht)).to (by decide +kernel)

theorem fabs_I {x : Nat} {M : Rat} (h : I .f64 x (some (-M, M))) : I .f64 (math_Abs x) (some (0, M)) := by
  rw [math_Abs_eq (num_nan h.1)]
  obtain ⟨f1, f2⟩ := fabs_num h.1
  have hp := two_pos (lplace .f64)
  have hR := R_V h.1
  have hR2 := R_V f1
  rw [f2] at hR2
  have h1 := h.2.1
  have h2 := h.2.2
  rcases Int.natAbs_eq (V .f64 x) with g | g
  · rw [← g, ← hR] at hR2
    have h0 : (0 : Rat) ≤ (V .f64 x : Rat) := by
      have : (0 : Int) ≤ V .f64 x := by omega
      exact_mod_cast this
    have := Rat.mul_nonneg h0 (Rat.le_of_lt hp)
    refine ⟨f1, ?_, ?_⟩ <;> rw [hR2] <;> grind
  · have e : (((V .f64 x).natAbs : Int) : Rat) = -(V .f64 x : Rat) := by
      have : ((V .f64 x).natAbs : Int) = -(V .f64 x) := by omega
      rw [this]
      push_cast
      rfl
    rw [e] at hR2
    have h0 : (V .f64 x : Rat) ≤ 0 := by
      have : V .f64 x ≤ (0 : Int) := by omega
      exact_mod_cast this
    have := Rat.mul_nonneg (show 0 ≤ -(V .f64 x : Rat) by grind) (Rat.le_of_lt hp)
    refine ⟨f1, ?_, ?_⟩ <;> rw [hR2] <;> grind

theorem k_far : I .f64 4841369599423283200 (some (1000000, 10000000000000000)) := I.at (by decide +kernel)

theorem sineT_I {x : Nat} (h : I .f32 x (some (-100, 100))) : impl_SineTurns_need x = true ∧ I .f32 (impl_SineTurns x) (some (-1572 / 1000, 1572 / 1000)) := by
  have ha := fabs_I (M := 100) (h.up.to (by decide +kernel))
  have hfar : fge .f64 (math_Abs (fconv .f32 x .f64)) 4841369599423283200 = false := by
    rw [fge_R ha.1 k_far.1]
    exact decide_eq_false (by have := ha.2.2; have := k_far.2.1; grind)
  have hs := sine_I h.up (by decide +kernel) (by decide +kernel)
  have hf := I.fits hs (by decide +kernel) (by decide +kernel)
  unfold impl_SineTurns_need impl_SineTurns impl_SineTurns_tree
  simp only [DT.ok, DT.val, IsFinite_need, IsFinite_eq, h.1, Bool.not_true, fconvOk_up, hfar, hf]
  exact ⟨trivial, (I.down hs).to (by decide +kernel)⟩

theorem cosT_need {x : Nat} (h : I .f32 x (some (-50, 50))) : impl_cos_need x = true := by
  have hs := (I.add h k_quart32).to (lo := -100) (hi := 100) (by decide +kernel)
  unfold impl_cos_need impl_cos_tree
  simp only [DT.ok, (sineT_I hs).1]

structure MarkS (m : Mark) : Prop where
  north : I .f32 m.North (some (-1 / 4, 1 / 4))
  east : I .f32 m.East (some (-1 / 2, 1 / 2))
  high : I .f32 m.High (some (0, 1))
  ok : markB m = true

theorem place_need {b : Ball} {m : Mark} {t : Nat} (h : BallS b) (hm : MarkS m) (ht : I .f32 t (some (0, 2))) : impl_Ball_place_need b m t = true := by
  have n := cosT_need (hm.north.to (by decide +kernel))
  have f := (I.add hm.east (face_I h ht)).to (lo := -2) (hi := 2) (by decide +kernel)
  have c := cosT_need (f.to (by decide +kernel))
  have s := (sineT_I (f.to (by decide +kernel))).1
  have s2 := (sineT_I (hm.north.to (by decide +kernel))).1
  have eb : (⟨b.Mass, b.Radius, b.Spin, b.Start⟩ : Ball) = b := rfl
  unfold impl_Ball_place_need impl_Ball_place_tree
  simp only [DT.ok, eb, n, c, s, s2]

theorem rise_need {b : Ball} {m : Mark} {v : Vec} {t : Nat} (h : BallS b) (hm : MarkS m) (hv : finV v = true) (ht : I .f32 t (some (0, 2))) : impl_RiseAt_need b m v t = true := by
  obtain ⟨v1, v2⟩ := h.valid
  have hmk := ValidMark_eq m
  rw [hm.ok] at hmk
  have hf := isFiniteVector_eq v
  rw [hv] at hf
  have hp := place_need h hm ht
  have eb : (⟨b.Mass, b.Radius, b.Spin, b.Start⟩ : Ball) = b := rfl
  have em : (⟨m.North, m.East, m.High⟩ : Mark) = m := rfl
  have ev : (⟨v.X, v.Y, v.Z⟩ : Vec) = v := rfl
  have hr : impl_Ball_rise_need b m v t = true := by
    unfold impl_Ball_rise_need impl_Ball_rise_tree
    simp only [DT.ok, eb, em, hp, Size_need]
  have htold : ∀ x, impl_told_need x = true := fun x => by
    unfold impl_told_need impl_told_tree
    cases hi : impl_IsFinite x <;> simp only [DT.ok, IsFinite_need, hi, Bool.not_true, Bool.not_false]
  unfold impl_RiseAt_need impl_RiseAt_tree
  simp only [eb, em, ev, v1, v2, hmk.1, hmk.2, hf.1, hf.2, IsFinite_need, IsFinite_eq, ht.1, hr, htold, Bool.not_true]
  simp only [DT.ok]

def radN (r : Nat) : Nat := fdiv .f32 (fofInt .f32 (IntKind.wrap .i64 (1 + (r : Int)))) 1090519040

theorem rad_I : ∀ r : Fin 8, atI .f32 (radN r.val) (1 / 8) 1 = true := by decide +kernel

theorem d_mass : ∀ k : Fin 8, atI .f32 (fdiv .f32 (fofInt .f32 (IntKind.wrap .i64 (1 + (k.val : Int)))) 1073741824) (1 / 2) 4 = true := by decide +kernel

theorem d_spin : ∀ k : Fin 17, atI .f32 (fdiv .f32 (fofInt .f32 (IntKind.wrap .i64 ((k.val : Int) - 8))) 1115684864) (-1 / 8) (1 / 8) = true := by decide +kernel

theorem d_start : ∀ k : Fin 17, atI .f32 (fdiv .f32 (fofInt .f32 (IntKind.wrap .i64 ((k.val : Int) - 8))) 1098907648) (-1 / 2) (1 / 2) = true := by decide +kernel

theorem ball_eq {c : List Int} (hc : Bytes c) : spec_R8Ball_need c = true ∧ BallS (spec_R8Ball c) ∧ ∃ r : Fin 8, (spec_R8Ball c).Radius = radN r.val := by
  obtain ⟨v1, a1, s1, m1, e1, l1, u1, q1, r1⟩ := pick_eq hc 0 (a := 0) (n := 8) (by omega) (by omega) (by omega) (by omega)
  obtain ⟨v2, a2, s2, m2, e2, l2, u2, q2, r2⟩ := pick_eq hc s1 (a := a1) (n := 8) (by omega) (by omega) (by omega) (by omega)
  obtain ⟨v3, a3, s3, m3, e3, l3, u3, q3, r3⟩ := pick_eq hc s2 (a := a2) (n := 17) (by omega) (by omega) (by omega) (by omega)
  obtain ⟨v4, a4, s4, m4, e4, l4, u4, q4, r4⟩ := pick_eq hc s3 (a := a3) (n := 17) (by omega) (by omega) (by omega) (by omega)
  obtain ⟨k1, rfl⟩ := fin_of (n := 8) l1 u1
  obtain ⟨k2, rfl⟩ := fin_of (n := 8) l2 u2
  obtain ⟨k3, rfl⟩ := fin_of (n := 17) l3 u3
  obtain ⟨k4, rfl⟩ := fin_of (n := 17) l4 u4
  have f1 := I.at (d_mass k1)
  have f2 := I.at (rad_I k2)
  have f3 := I.at (d_spin k3)
  have f4 := I.at (d_start k4)
  have hr : fdiv .f32 (fofInt .f32 (IntKind.wrap .i64 (1 + (k2.val : Int)))) 1090519040 = radN k2.val := rfl
  generalize hA : fdiv .f32 (fofInt .f32 (IntKind.wrap .i64 (1 + (k1.val : Int)))) 1073741824 = A at *
  generalize hB : radN k2.val = B at *
  generalize hC : fdiv .f32 (fofInt .f32 (IntKind.wrap .i64 ((k3.val : Int) - 8))) 1115684864 = C at *
  generalize hD : fdiv .f32 (fofInt .f32 (IntKind.wrap .i64 ((k4.val : Int) - 8))) 1098907648 = D at *
  have key : spec_l06DrawOk_need c 0 0 = true ∧ spec_l06DrawOk c 0 0 = (⟨A, B, C, D⟩, a4, s4) := by
    unfold spec_l06DrawOk_need spec_l06DrawOk spec_l06DrawOk_tree
    simp only [m1, e1, m2, e2, m3, e3, m4, e4, hA, hr, hC, hD]
    simp only [DT.ok, DT.val]
    exact ⟨trivial, trivial⟩
  have hb : spec_R8Ball_need c = true ∧ spec_R8Ball c = ⟨A, B, C, D⟩ := by
    unfold spec_R8Ball_need spec_R8Ball spec_R8Ball_tree
    simp only [key.1, key.2]
    simp only [DT.ok, DT.val]
    exact ⟨trivial, trivial⟩
  rw [hb.2]
  exact ⟨hb.1, ⟨f1, f2, f3, f4⟩, k2, hB.symm⟩

theorem d_long : ∀ k : Fin 9, atI .f32 (fdiv .f32 (fofInt .f32 (IntKind.wrap .i64 (4 + (k.val : Int)))) 1082130432) 1 3 = true := by decide +kernel

theorem d_round : ∀ k : Fin 6, atI .f32 (fdiv .f32 (fofInt .f32 (k.val : Int)) 1090519040) 0 (5 / 8) = true := by decide +kernel

theorem d_tilt : ∀ k : Fin 9, atI .f32 (fdiv .f32 (fofInt .f32 (k.val : Int)) 1098907648) 0 (1 / 2) = true := by decide +kernel

theorem d_turn : ∀ k : Fin 16, (atI .f32 (fdiv .f32 (fofInt .f32 (k.val : Int)) 1098907648) 0 1 && turnB (fdiv .f32 (fofInt .f32 (k.val : Int)) 1098907648)) = true := by decide +kernel

theorem orbit_eq {c : List Int} (hc : Bytes c) : spec_R8Orbit_need c = true ∧ OrbS (spec_R8Orbit c) := by
  obtain ⟨v1, a1, s1, m1, e1, l1, u1, q1, r1⟩ := pick_eq hc 0 (a := 0) (n := 9) (by omega) (by omega) (by omega) (by omega)
  obtain ⟨v2, a2, s2, m2, e2, l2, u2, q2, r2⟩ := pick_eq hc s1 (a := a1) (n := 6) (by omega) (by omega) (by omega) (by omega)
  obtain ⟨v3, a3, s3, m3, e3, l3, u3, q3, r3⟩ := pick_eq hc s2 (a := a2) (n := 9) (by omega) (by omega) (by omega) (by omega)
  obtain ⟨v4, a4, s4, m4, e4, l4, u4, q4, r4⟩ := pick_eq hc s3 (a := a3) (n := 16) (by omega) (by omega) (by omega) (by omega)
  obtain ⟨v5, a5, s5, m5, e5, l5, u5, q5, r5⟩ := pick_eq hc s4 (a := a4) (n := 16) (by omega) (by omega) (by omega) (by omega)
  obtain ⟨v6, a6, s6, m6, e6, l6, u6, q6, r6⟩ := pick_eq hc s5 (a := a5) (n := 16) (by omega) (by omega) (by omega) (by omega)
  obtain ⟨k1, rfl⟩ := fin_of (n := 9) l1 u1
  obtain ⟨k2, rfl⟩ := fin_of (n := 6) l2 u2
  obtain ⟨k3, rfl⟩ := fin_of (n := 9) l3 u3
  obtain ⟨k4, rfl⟩ := fin_of (n := 16) l4 u4
  obtain ⟨k5, rfl⟩ := fin_of (n := 16) l5 u5
  obtain ⟨k6, rfl⟩ := fin_of (n := 16) l6 u6
  have f1 := I.at (d_long k1)
  have f2 := I.at (d_round k2)
  have f3 := I.at (d_tilt k3)
  have f4 := d_turn k4
  have f5 := d_turn k5
  have f6 := d_turn k6
  rw [Bool.and_eq_true] at f4 f5 f6
  obtain ⟨f4, t4⟩ := f4
  obtain ⟨f5, t5⟩ := f5
  obtain ⟨f6, t6⟩ := f6
  have f4 := I.at f4
  have f5 := I.at f5
  have f6 := I.at f6
  generalize hA : fdiv .f32 (fofInt .f32 (IntKind.wrap .i64 (4 + (k1.val : Int)))) 1082130432 = A at *
  generalize hB : fdiv .f32 (fofInt .f32 (k2.val : Int)) 1090519040 = B at *
  generalize hC : fdiv .f32 (fofInt .f32 (k3.val : Int)) 1098907648 = C at *
  generalize hD : fdiv .f32 (fofInt .f32 (k4.val : Int)) 1098907648 = D at *
  generalize hE : fdiv .f32 (fofInt .f32 (k5.val : Int)) 1098907648 = E at *
  generalize hF : fdiv .f32 (fofInt .f32 (k6.val : Int)) 1098907648 = F at *
  have hb : spec_R8Orbit_need c = true ∧ spec_R8Orbit c = ⟨A, B, C, D, E, F⟩ := by
    unfold spec_R8Orbit_need spec_R8Orbit spec_R8Orbit_tree
    simp only [m1, e1, m2, e2, m3, e3, m4, e4, m5, e5, m6, e6, hA, hB, hC, hD, hE, hF]
    simp only [DT.ok, DT.val]
    exact ⟨trivial, trivial⟩
  rw [hb.2]
  refine ⟨hb.1, f1, f2, f3, f4, f5, f6, ?_⟩
  have hgt : fgt .f32 A 0 = true := I.gt f1 k_zero32 (by decide +kernel)
  have h1 : fge .f32 B 0 = true := I.ge f2 k_zero32 (by decide +kernel)
  have h2 : flt .f32 B 1065353216 = true := I.lt f2 k_one32 (by decide +kernel)
  have h3 : fge .f32 C 0 = true := I.ge f3 k_zero32 (by decide +kernel)
  have h4 : fle .f32 C 1056964608 = true := I.le f3 k_half32 (by decide +kernel)
  unfold validO
  simp only [f1.1, f2.1, h3, h4, t4, t5, hgt, h1, h2, t6, Bool.and_self]

theorem d_north : ∀ k : Fin 29, atI .f32 (fdiv .f32 (fofInt .f32 (IntKind.wrap .i64 ((k.val : Int) - 14))) 1115684864) (-1 / 4) (1 / 4) = true := by decide +kernel

theorem d_east : ∀ k : Fin 31, atI .f32 (fdiv .f32 (fofInt .f32 (IntKind.wrap .i64 ((k.val : Int) - 15))) 1107296256) (-1 / 2) (49 / 100) = true := by decide +kernel

theorem d_high : ∀ k : Fin 5, atI .f32 (fdiv .f32 (fofInt .f32 (k.val : Int)) 1082130432) 0 1 = true := by decide +kernel

theorem mark_eq {c : List Int} (hc : Bytes c) : spec_R8Mark_need c = true ∧ MarkS (spec_R8Mark c) := by
  obtain ⟨v1, a1, s1, m1, e1, l1, u1, q1, r1⟩ := pick_eq hc 0 (a := 0) (n := 29) (by omega) (by omega) (by omega) (by omega)
  obtain ⟨v2, a2, s2, m2, e2, l2, u2, q2, r2⟩ := pick_eq hc s1 (a := a1) (n := 31) (by omega) (by omega) (by omega) (by omega)
  obtain ⟨v3, a3, s3, m3, e3, l3, u3, q3, r3⟩ := pick_eq hc s2 (a := a2) (n := 5) (by omega) (by omega) (by omega) (by omega)
  obtain ⟨k1, rfl⟩ := fin_of (n := 29) l1 u1
  obtain ⟨k2, rfl⟩ := fin_of (n := 31) l2 u2
  obtain ⟨k3, rfl⟩ := fin_of (n := 5) l3 u3
  have f1 := I.at (d_north k1)
  have f2 := I.at (d_east k2)
  have f3 := I.at (d_high k3)
  generalize hA : fdiv .f32 (fofInt .f32 (IntKind.wrap .i64 ((k1.val : Int) - 14))) 1115684864 = A at *
  generalize hB : fdiv .f32 (fofInt .f32 (IntKind.wrap .i64 ((k2.val : Int) - 15))) 1107296256 = B at *
  generalize hC : fdiv .f32 (fofInt .f32 (k3.val : Int)) 1082130432 = C at *
  have hb : spec_R8Mark_need c = true ∧ spec_R8Mark c = ⟨A, B, C⟩ := by
    unfold spec_R8Mark_need spec_R8Mark spec_R8Mark_tree
    simp only [m1, e1, m2, e2, m3, e3, hA, hB, hC]
    simp only [DT.ok, DT.val]
    exact ⟨trivial, trivial⟩
  rw [hb.2]
  refine ⟨hb.1, f1, f2.to (by decide +kernel), f3, ?_⟩
  have h1 : fge .f32 A 3196059648 = true := I.ge f1 k_mquart32 (by decide +kernel)
  have h2 : fle .f32 A 1048576000 = true := I.le f1 k_quart32 (by decide +kernel)
  have h3 : fge .f32 B 3204448256 = true := I.ge f2 k_mhalf32 (by decide +kernel)
  have h4 : flt .f32 B 1056964608 = true := I.lt f2 k_half32 (by decide +kernel)
  unfold markB
  simp only [h1, h2, h3, h4, f3.1, Bool.and_self]

end Go.Proofs.Ytkhjcoekmamlaaa
