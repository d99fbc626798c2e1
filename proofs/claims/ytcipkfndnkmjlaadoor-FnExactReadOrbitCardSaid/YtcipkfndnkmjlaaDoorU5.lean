/- Plain law of what is read, part 5: balls and orbits: the program's and the reference's; the laws. -/
import Derived.Test.YtcipkfndnkmjlaaDoorU2
namespace Go.Proofs.YtcipkfndnkmjlaaDoor
set_option linter.unusedVariables false
set_option linter.unusedSimpArgs false

theorem IsFinite_need (x : Nat) : impl_IsFinite_need x = true := by
  unfold impl_IsFinite_need impl_IsFinite_tree
  simp only [DT.ok, fconvOk_up]
theorem l01Finite_eq (x : Nat) : spec_l01Finite x = isNum .f32 x := finite_same .f32 x
theorem math_Abs_eq {x : Nat} (h : isNaN .f64 x = false) : math_Abs x = fabs x := by
  unfold math_Abs math_Abs_tree
  simp only [DT.val, h]
  rfl
theorem impl_finite_eq (x : Nat) : impl_finite x = isNum .f64 x := by
  unfold impl_finite impl_finite_tree
  have h1 : math_IsNaN x = isNaN .f64 x := fne_self .f64 x
  simp only [DT.val, h1]
  cases hn : isNaN .f64 x with
  | true =>
    rcases kinds .f64 x with ⟨s, m, p, hd, h1, h2⟩ | ⟨s, hd, h1, h2⟩ | ⟨s, t, hd, h1, h2⟩
    · rw [h2] at hn; cases hn
    · rw [h2] at hn; cases hn
    · rw [h1]; rfl
  | false =>
    have h2 : math_IsInf x 0 = fgt .f64 (math_Abs x) 9218868437227405311 := rfl
    rw [h2, math_Abs_eq hn, inf_abs hn]
    simp
theorem IsFinite_eq (x : Nat) : impl_IsFinite x = isNum .f32 x := by
  show impl_finite (fconv .f32 x .f64) = _
  rw [impl_finite_eq, isNum_up]

theorem sameFloat_self (x : Nat) : laws_sameFloat x x = true := by
  unfold laws_sameFloat laws_sameFloat_tree
  cases h1 : fne .f64 x x with
  | true => simp only [DT.val, h1]
  | false =>
    have h2 : feq .f64 x x = true := by
      have := fne_feq .f64 x x
      rw [h1] at this
      simpa using this.symm
    cases h3 : feq .f64 x 0 <;> simp only [DT.val, h1, h3, h2, beq_self_eq_true]

theorem getD_set {α : Type} {l : List α} {i : Nat} {x d : α} (h : i < l.length) : List.getD (List.set l i x) i d = x := by
  rw [List.getD_eq_getElem?_getD, List.getElem?_set_self h, Option.getD_some]
theorem getD_set_ne {α : Type} {l : List α} {i j : Nat} {x d : α} (h : i ≠ j) : List.getD (List.set l i x) j d = List.getD l j d := by
  rw [List.getD_eq_getElem?_getD, List.getD_eq_getElem?_getD, List.getElem?_set_ne h]

theorem fne_mark {n : Int} (h0 : 0 ≤ n) (h : n ≤ 2 ^ 51) : fne .f32 (fofInt .f32 n) (fofInt .f32 n) = false := by
  rw [fne_self]
  exact fofInt_num (by omega) .f32

theorem areFinite_1_eq (i : Nat) : impl_areFinite_1_need i = true ∧ impl_areFinite_1 i = !isNum .f32 i := by
  unfold impl_areFinite_1_need impl_areFinite_1 impl_areFinite_1_tree
  simp only [DT.ok, DT.val, IsFinite_need, IsFinite_eq]
  exact ⟨trivial, trivial⟩

theorem areFinite_eq (l : List Nat) (hl : l.length ≤ 2 ^ 62) : impl_areFinite_need l = true ∧ impl_areFinite l = l.all (isNum .f32) := by
  obtain ⟨h1, h2⟩ := scan_loop (α := Int) (β := Unit) (step := slices_IndexFunc___float32_float32__impl_areFinite_1_loop0_step (l, ((l.length : Nat) : Int))) l.length (fun i => bif isNum .f32 (l.getD i default) then none else some (i : Int)) () (fun i hi => by
    refine ⟨[], ?_⟩
    unfold slices_IndexFunc___float32_float32__impl_areFinite_1_loop0_step
    simp only [DT.get, nat_dec hi, nat_in hi, (areFinite_1_eq _).1, (areFinite_1_eq _).2, Int.toNat_natCast, nat_next hi hl]
    cases isNum .f32 (l.getD i default) <;> rfl) ⟨[], by
    unfold slices_IndexFunc___float32_float32__impl_areFinite_1_loop0_step
    simp only [DT.get, nat_not]⟩
  have hall := firstOf_all (isNum .f32) (fun i => (i : Int)) default l
  have h1 : slices_IndexFunc___float32_float32__impl_areFinite_1_loop0_ends (l, ((l.length : Nat) : Int)) 0 = true := h1
  have h2 : slices_IndexFunc___float32_float32__impl_areFinite_1_loop0 (l, ((l.length : Nat) : Int)) 0 = _ := h2
  have key : slices_IndexFunc___float32_float32__impl_areFinite_1_need l = true ∧ decide (slices_IndexFunc___float32_float32__impl_areFinite_1 l ≥ 0) = !l.all (isNum .f32) := by
    unfold slices_IndexFunc___float32_float32__impl_areFinite_1_need slices_IndexFunc___float32_float32__impl_areFinite_1 slices_IndexFunc___float32_float32__impl_areFinite_1_tree
    simp only [DT.ok, DT.val, h1, h2]
    rw [← hall]
    cases hf : firstOf (fun i => bif isNum .f32 (l.getD i default) then none else some (i : Int)) l.length with
    | none => constructor <;> first | trivial | rfl
    | some a =>
      have ha : 0 ≤ a := by
        unfold firstOf at hf
        obtain ⟨i, _, hi⟩ := List.exists_of_findSome?_eq_some hf
        cases hq : isNum .f32 (l.getD i default) <;> rw [hq] at hi
        · simp only [cond_false, Option.some.injEq] at hi; omega
        · cases hi
      simp only [isL, leftD]
      exact ⟨trivial, decide_eq_true ha⟩
  have key2 : slices_ContainsFunc___float32_float32__impl_areFinite_1_need l = true ∧ slices_ContainsFunc___float32_float32__impl_areFinite_1 l = !l.all (isNum .f32) := by
    unfold slices_ContainsFunc___float32_float32__impl_areFinite_1_need slices_ContainsFunc___float32_float32__impl_areFinite_1 slices_ContainsFunc___float32_float32__impl_areFinite_1_tree
    simp only [DT.ok, DT.val, key.1, key.2]
    exact ⟨trivial, trivial⟩
  unfold impl_areFinite_need impl_areFinite impl_areFinite_tree
  simp only [DT.ok, DT.val, key2.1, key2.2, Bool.not_not]
  exact ⟨trivial, trivial⟩

theorem aLength_same (x : Nat) : impl_aLength_need x = true ∧ impl_aLength x = spec_l02Above x := by
  unfold impl_aLength_need impl_aLength impl_aLength_tree spec_l02Above spec_l02Above_tree
  simp only [DT.ok, DT.val, IsFinite_need, IsFinite_eq, l01Finite_eq]
  cases isNum .f32 x <;> constructor <;> first | trivial | rfl
def turnB (x : Nat) : Bool := fge .f32 x 0 && flt .f32 x 1065353216
def validO (o : Orbit) : Bool := isNum .f32 o.Long && (isNum .f32 o.Round && ((fge .f32 o.Tilt 0 && fle .f32 o.Tilt 1056964608) && (turnB o.Node && (turnB o.Peri && match fgt .f32 o.Long 0 with
  | true => fge .f32 o.Round 0 && (flt .f32 o.Round 1065353216 && turnB o.Phase)
  | false => flt .f32 o.Long 0 && (fgt .f32 o.Round 1065353216 && (fge .f32 o.Phase 3246391296 && fle .f32 o.Phase 1098907648))))))

theorem l03Turn_eq (x : Nat) : spec_l03Turn x = turnB x := by
  unfold spec_l03Turn spec_l03Turn_tree turnB
  cases h : fge .f32 x 0 <;> simp only [DT.val, h] <;> rfl
theorem isTurn_eq (x : Nat) : impl_isTurn x = turnB x := by
  unfold impl_isTurn impl_isTurn_tree turnB
  cases h : fge .f32 x 0 <;> simp only [DT.val, h] <;> rfl

theorem l03Is_eq (o : Orbit) : spec_l03Is o = validO o := by
  unfold spec_l03Is spec_l03Is_tree validO
  simp only [l01Finite_eq, l03Turn_eq]
  generalize turnB o.Node = t1
  generalize turnB o.Peri = t2
  generalize turnB o.Phase = t3
  cases isNum .f32 o.Long <;> cases isNum .f32 o.Round <;> try rfl
  cases fge .f32 o.Tilt 0 <;> cases fle .f32 o.Tilt 1056964608 <;> cases t1 <;> cases t2 <;> try rfl
  cases fgt .f32 o.Long 0
  · cases flt .f32 o.Long 0 <;> cases fgt .f32 o.Round 1065353216 <;> cases fge .f32 o.Phase 3246391296 <;> rfl
  · cases fge .f32 o.Round 0 <;> cases flt .f32 o.Round 1065353216 <;> rfl

theorem consts32 : isNum .f32 0 = true ∧ isNum .f32 1065353216 = true ∧ isNum .f32 1056964608 = true ∧ isNum .f32 3246391296 = true ∧ isNum .f32 1098907648 = true := by decide +kernel

theorem turn_num {x : Nat} (h : turnB x = true) : isNum .f32 x = true := by
  unfold turnB at h
  rw [Bool.and_eq_true] at h
  exact num_between consts32.1 consts32.2.1 h.1 (.inl h.2)

theorem fgt_flt {x : Nat} (h : fgt .f32 x 0 = true) : flt .f32 x 0 = false := by
  unfold fgt at h
  unfold flt
  cases hx : FloatKind.f32.format.order x 0 with
  | none => rw [hx] at h; cases h
  | some o => rw [hx] at h; cases o <;> first | rfl | cases h

theorem ValidOrbit_eq (o : Orbit) : impl_ValidOrbit_need o = true ∧ impl_ValidOrbit o = validO o := by
  obtain ⟨a1, a2⟩ := areFinite_eq [o.Long, o.Round, o.Tilt, o.Node, o.Peri, o.Phase] (by show 6 ≤ 2 ^ 62; decide)
  refine ⟨?_, ?_⟩
  · unfold impl_ValidOrbit_need impl_ValidOrbit_tree
    simp only [DT.ok, a1, a2]
    repeat' split
    all_goals rfl
  · have he : impl_Orbit_isEllipse o = (fgt .f32 o.Long 0 && (fge .f32 o.Round 0 && (flt .f32 o.Round 1065353216 && turnB o.Phase))) := by
      unfold impl_Orbit_isEllipse impl_Orbit_isEllipse_tree
      simp only [isTurn_eq]
      cases fgt .f32 o.Long 0 <;> cases fge .f32 o.Round 0 <;> cases flt .f32 o.Round 1065353216 <;> rfl
    have hb : impl_Orbit_isBranch o = (flt .f32 o.Long 0 && (fgt .f32 o.Round 1065353216 && (fge .f32 o.Phase 3246391296 && fle .f32 o.Phase 1098907648))) := by
      unfold impl_Orbit_isBranch impl_Orbit_isBranch_tree
      cases flt .f32 o.Long 0 <;> cases fgt .f32 o.Round 1065353216 <;> cases fge .f32 o.Phase 3246391296 <;> rfl
    cases hv : validO o with
    | true =>
      have hv0 := hv
      unfold validO at hv
      simp only [Bool.and_eq_true] at hv
      obtain ⟨h1, h2, ⟨h3, h4⟩, h5, h6, h7⟩ := hv
      have n3 := num_between consts32.1 consts32.2.2.1 h3 (.inr h4)
      have n6 : isNum .f32 o.Phase = true := by
        cases hg : fgt .f32 o.Long 0 with
        | true =>
          rw [hg] at h7
          simp only [Bool.and_eq_true] at h7
          exact turn_num h7.2.2
        | false =>
          rw [hg] at h7
          simp only [Bool.and_eq_true] at h7
          exact num_between consts32.2.2.2.1 consts32.2.2.2.2 h7.2.2.1 (.inr h7.2.2.2)
      have hall : [o.Long, o.Round, o.Tilt, o.Node, o.Peri, o.Phase].all (isNum .f32) = true := by
        simp only [List.all_cons, List.all_nil, h1, h2, n3, turn_num h5, turn_num h6, n6, Bool.and_self]
      have hor : (impl_Orbit_isEllipse o || impl_Orbit_isBranch o) = true := by
        rw [he, hb]
        cases hg : fgt .f32 o.Long 0 with
        | true =>
          rw [hg] at h7
          have h7 : (fge .f32 o.Round 0 && (flt .f32 o.Round 1065353216 && turnB o.Phase)) = true := h7
          rw [h7]
          rfl
        | false =>
          rw [hg] at h7
          have h7 : (flt .f32 o.Long 0 && (fgt .f32 o.Round 1065353216 && (fge .f32 o.Phase 3246391296 && fle .f32 o.Phase 1098907648))) = true := h7
          rw [h7]
          rfl
      have he' : impl_Orbit_isEllipse (⟨o.Long, o.Round, o.Tilt, o.Node, o.Peri, o.Phase⟩ : Orbit) = impl_Orbit_isEllipse o := rfl
      have hb' : impl_Orbit_isBranch (⟨o.Long, o.Round, o.Tilt, o.Node, o.Peri, o.Phase⟩ : Orbit) = impl_Orbit_isBranch o := rfl
      unfold impl_ValidOrbit impl_ValidOrbit_tree
      simp only [DT.val, a2, hall, h3, h4, isTurn_eq, h5, h6, he', hb']
      cases hq : impl_Orbit_isEllipse o with
      | true => rfl
      | false => rw [hq, Bool.false_or] at hor; exact hor
    | false =>
      have he' : impl_Orbit_isEllipse (⟨o.Long, o.Round, o.Tilt, o.Node, o.Peri, o.Phase⟩ : Orbit) = impl_Orbit_isEllipse o := rfl
      have hb' : impl_Orbit_isBranch (⟨o.Long, o.Round, o.Tilt, o.Node, o.Peri, o.Phase⟩ : Orbit) = impl_Orbit_isBranch o := rfl
      have hform : impl_ValidOrbit o = (([o.Long, o.Round, o.Tilt, o.Node, o.Peri, o.Phase].all (isNum .f32)) && ((fge .f32 o.Tilt 0 && fle .f32 o.Tilt 1056964608) && (turnB o.Node && (turnB o.Peri && (impl_Orbit_isEllipse o || impl_Orbit_isBranch o))))) := by
        unfold impl_ValidOrbit impl_ValidOrbit_tree
        simp only [a2, isTurn_eq, he', hb']
        generalize [o.Long, o.Round, o.Tilt, o.Node, o.Peri, o.Phase].all (isNum .f32) = c
        generalize turnB o.Node = t1
        generalize turnB o.Peri = t2
        cases c <;> cases fge .f32 o.Tilt 0 <;> cases fle .f32 o.Tilt 1056964608 <;> cases t1 <;> cases t2 <;> cases impl_Orbit_isEllipse o <;> rfl
      rw [hform]
      refine Bool.eq_false_iff.2 fun ht => ?_
      simp only [Bool.and_eq_true, List.all_cons] at ht
      obtain ⟨⟨h1, h2, _⟩, ⟨h3, h4⟩, h5, h6, h7⟩ := ht
      rw [he, hb] at h7
      unfold validO at hv
      rw [h1, h2, h3, h4, h5, h6] at hv
      cases hg : fgt .f32 o.Long 0 with
      | true =>
        rw [hg, fgt_flt hg, Bool.false_and, Bool.or_false, Bool.true_and] at h7
        rw [hg] at hv
        simp only [Bool.true_and] at hv
        rw [h7] at hv
        cases hv
      | false =>
        rw [hg, Bool.false_and, Bool.false_or] at h7
        rw [hg] at hv
        simp only [Bool.true_and] at hv
        rw [h7] at hv
        cases hv


theorem areLengths_eq (l : List Nat) (hl : l.length ≤ 2 ^ 62) : impl_areLengths_need l = true ∧ impl_areLengths l = l.all spec_l02Above := by
  obtain ⟨h1, h2⟩ := scan_loop (α := Unit) (β := Unit) (step := impl_areLengths_loop0_step (l, ((l.length : Nat) : Int))) l.length (fun i => bif spec_l02Above (l.getD i default) then none else some ()) () (fun i hi => by
    refine ⟨[], ?_⟩
    unfold impl_areLengths_loop0_step
    simp only [DT.get, nat_dec hi, nat_in hi, (aLength_same _).1, (aLength_same _).2, Int.toNat_natCast, nat_next hi hl]
    cases spec_l02Above (l.getD i default) <;> rfl) ⟨[], by
    unfold impl_areLengths_loop0_step
    simp only [DT.get, nat_not]⟩
  have hall := firstOf_all spec_l02Above (fun i => ()) default l
  have h1 : impl_areLengths_loop0_ends (l, ((l.length : Nat) : Int)) 0 = true := h1
  have h2 : impl_areLengths_loop0 (l, ((l.length : Nat) : Int)) 0 = _ := h2
  unfold impl_areLengths_need impl_areLengths impl_areLengths_tree
  simp only [DT.ok, DT.val, h1, h2]
  rw [← hall]
  cases hf : firstOf (fun i => bif spec_l02Above (l.getD i default) then none else some ()) l.length with
  | none => constructor <;> first | trivial | rfl
  | some a => constructor <;> first | trivial | rfl

theorem ValidBall_eq (b : Ball) : impl_ValidBall_need b = true ∧ impl_ValidBall b = spec_l06Ball b := by
  obtain ⟨a1, a2⟩ := areLengths_eq [b.Mass, b.Radius] (by show 2 ≤ 2 ^ 62; decide)
  obtain ⟨f1, f2⟩ := areFinite_eq [b.Spin, b.Start] (by show 2 ≤ 2 ^ 62; decide)
  have a2 : impl_areLengths [b.Mass, b.Radius] = (spec_l02Above b.Mass && spec_l02Above b.Radius) := by rw [a2]; simp only [List.all_cons, List.all_nil, Bool.and_true]
  have f2 : impl_areFinite [b.Spin, b.Start] = (isNum .f32 b.Spin && isNum .f32 b.Start) := by rw [f2]; simp only [List.all_cons, List.all_nil, Bool.and_true]
  unfold impl_ValidBall_need impl_ValidBall impl_ValidBall_tree spec_l06Ball spec_l06Ball_tree
  simp only [a1, a2, f1, f2, l01Finite_eq]
  generalize spec_l02Above b.Mass = p
  generalize spec_l02Above b.Radius = q
  generalize isNum .f32 b.Spin = r
  generalize isNum .f32 b.Start = s
  cases p <;> cases q <;> cases r <;> cases s <;> constructor <;> rfl


/-! ## Read -/

theorem eqBall_self (b : Ball) : laws_eqBall_need b b = true ∧ laws_eqBall b b = true := by
  unfold laws_eqBall_need laws_eqBall laws_eqBall_tree
  simp only [DT.ok, DT.val, fconvOk_up, sameFloat_self, Bool.not_true]
  exact ⟨trivial, trivial⟩

theorem eqOrbit_self (o : Orbit) : laws_eqOrbit_need o o = true ∧ laws_eqOrbit o o = true := by
  unfold laws_eqOrbit_need laws_eqOrbit laws_eqOrbit_tree
  simp only [DT.ok, DT.val, fconvOk_up, sameFloat_self, Bool.not_true]
  exact ⟨trivial, trivial⟩

def bare4 : Ball × Bool := (⟨0, 0, 0, 0⟩, false)
def bare6 : Orbit × Bool := (⟨0, 0, 0, 0, 0, 0⟩, false)

/-- The ball of a text. -/
def ballR (a : List UInt8) : Ball × Bool := match numsR a with
  | some [x, y, z, w] => bif spec_l06Ball ⟨x, y, z, w⟩ then (⟨x, y, z, w⟩, true) else bare4
  | _ => bare4

/-- The orbit of a text. -/
def orbitR (a : List UInt8) : Orbit × Bool := match numsR a with
  | some [x, y, z, w, p, q] => bif validO ⟨x, y, z, w, p, q⟩ then (⟨x, y, z, w, p, q⟩, true) else bare6
  | _ => bare6

theorem len4 {l : List Nat} (h : l.length = 4) : ∃ x y z w, l = [x, y, z, w] := by
  match l, h with
  | [x, y, z, w], _ => exact ⟨x, y, z, w, rfl⟩
theorem len6 {l : List Nat} (h : l.length = 6) : ∃ x y z w p q, l = [x, y, z, w, p, q] := by
  match l, h with
  | [x, y, z, w, p, q], _ => exact ⟨x, y, z, w, p, q, rfl⟩

theorem ne_len {l : List Nat} {n : Nat} (h : decide (l.length = n) = false) : (((List.length l : Nat) : Int) != ((n : Nat) : Int)) = true := by
  have := of_decide_eq_false h
  rw [bne_iff_ne]; omega

theorem readBall_impl (a : List UInt8) (ha : a.length ≤ 2 ^ 30) : impl_ReadBall_need a = true ∧ impl_ReadBall a = ballR a := by
  obtain ⟨n1, n2⟩ := nums_impl a ha
  have key : (impl_ReadBall_tree a).get = some (ballR a) := by
    unfold impl_ReadBall_tree ballR
    unfold outR at n2
    cases hr : numsR a with
    | none =>
      rw [hr] at n2
      simp only at n2
      simp only [DT.get, n1, n2, isL, bare4]
    | some l =>
      rw [hr] at n2
      simp only at n2
      cases hl : decide (l.length = 4) with
      | false =>
        have hne : (((List.length l : Nat) : Int) != 4) = true := ne_len hl
        have hb : ballR a = bare4 := by
          unfold ballR
          rw [hr]
          match l, hl with
          | [], _ => rfl
          | [_], _ => rfl
          | [_, _], _ => rfl
          | [_, _, _], _ => rfl
          | _ :: _ :: _ :: _ :: _ :: _, _ => rfl
          | [_, _, _, _], h => cases h
        unfold ballR at hb
        rw [hr] at hb
        simp only [DT.get, n1, n2, isL, leftD, hne]
        exact congrArg some hb.symm
      | true =>
        obtain ⟨x, y, z, w, rfl⟩ := len4 (of_decide_eq_true hl)
        obtain ⟨v1, v2⟩ := ValidBall_eq ⟨x, y, z, w⟩
        have g0 : List.getD [x, y, z, w] 0 default = x := rfl
        have g1 : List.getD [x, y, z, w] 1 default = y := rfl
        have g2 : List.getD [x, y, z, w] 2 default = z := rfl
        have g3 : List.getD [x, y, z, w] 3 default = w := rfl
        have hln : List.length [x, y, z, w] = 4 := rfl
        cases hv : spec_l06Ball ⟨x, y, z, w⟩ with
        | false =>
          rw [hv] at v2
          simp only [DT.get, n1, n2, isL, leftD, g0, g1, g2, g3, hln, v1, v2, hv, Bool.not_false, cond_false, bare4]
          rfl
        | true =>
          rw [hv] at v2
          simp only [DT.get, n1, n2, isL, leftD, g0, g1, g2, g3, hln, v1, v2, hv, Bool.not_true, cond_true]
          rfl
  exact DT.of_get key

theorem readBall_spec (a : List UInt8) (ha : a.length ≤ 2 ^ 30) : spec_ReadBall_need a = true ∧ spec_ReadBall a = ballR a := by
  obtain ⟨n1, n2⟩ := nums_spec a ha
  have key : (spec_l08ReadBall_tree a).get = some (ballR a) := by
    unfold spec_l08ReadBall_tree ballR
    unfold outR at n2
    cases hr : numsR a with
    | none =>
      rw [hr] at n2
      simp only at n2
      simp only [DT.get, n1, n2, isL, bare4]
    | some l =>
      rw [hr] at n2
      simp only at n2
      cases hl : decide (l.length = 4) with
      | false =>
        have hne : (((List.length l : Nat) : Int) != 4) = true := ne_len hl
        have hb : ballR a = bare4 := by
          unfold ballR
          rw [hr]
          match l, hl with
          | [], _ => rfl
          | [_], _ => rfl
          | [_, _], _ => rfl
          | [_, _, _], _ => rfl
          | _ :: _ :: _ :: _ :: _ :: _, _ => rfl
          | [_, _, _, _], h => cases h
        unfold ballR at hb
        rw [hr] at hb
        simp only [DT.get, n1, n2, isL, leftD, hne]
        exact congrArg some hb.symm
      | true =>
        obtain ⟨x, y, z, w, rfl⟩ := len4 (of_decide_eq_true hl)
        have g0 : List.getD [x, y, z, w] 0 default = x := rfl
        have g1 : List.getD [x, y, z, w] 1 default = y := rfl
        have g2 : List.getD [x, y, z, w] 2 default = z := rfl
        have g3 : List.getD [x, y, z, w] 3 default = w := rfl
        have hln : List.length [x, y, z, w] = 4 := rfl
        cases hv : spec_l06Ball ⟨x, y, z, w⟩ with
        | false =>
          simp only [DT.get, n1, n2, isL, leftD, g0, g1, g2, g3, hln, hv, Bool.not_false, cond_false, bare4]
          rfl
        | true =>
          simp only [DT.get, n1, n2, isL, leftD, g0, g1, g2, g3, hln, hv, Bool.not_true, cond_true]
          rfl
  obtain ⟨k1, k2⟩ := DT.of_get key
  have k1 : spec_l08ReadBall_need a = true := k1
  have k2 : spec_l08ReadBall a = ballR a := k2
  have key2 : (spec_ReadBall_tree a).get = some (ballR a) := by
    unfold spec_ReadBall_tree
    simp only [DT.get, k1, k2]
  exact DT.of_get key2

theorem plain8 (a : List UInt8) : laws_FnExactReadBall_need a = true ∧ laws_FnExactReadBall a = true := by
  have key : (laws_FnExactReadBall_tree a).get = some true := by
    unfold laws_FnExactReadBall_tree
    cases hs : decide (((List.length a : Nat) : Int) > 1048576) with
    | true => simp only [DT.get, hs]
    | false =>
      have ha : a.length ≤ 2 ^ 30 := by
        have := of_decide_eq_false hs
        omega
      obtain ⟨p1, p2⟩ := readBall_impl a ha
      obtain ⟨q1, q2⟩ := readBall_spec a ha
      simp only [DT.get, hs, p1, p2, q1, q2, (eqBall_self _).1, (eqBall_self _).2, Bool.not_true, beq_self_eq_true]
  exact DT.of_get key

/-! ## Orbits -/

theorem valid_impl (o : Orbit) : impl_Orbit_valid_need o = true ∧ impl_Orbit_valid o = bif validO o then (o, true) else bare6 := by
  obtain ⟨v1, v2⟩ := ValidOrbit_eq ⟨o.Long, o.Round, o.Tilt, o.Node, o.Peri, o.Phase⟩
  have e : validO ⟨o.Long, o.Round, o.Tilt, o.Node, o.Peri, o.Phase⟩ = validO o := rfl
  rw [e] at v2
  have key : (impl_Orbit_valid_tree o).get = some (bif validO o then (o, true) else bare6) := by
    unfold impl_Orbit_valid_tree
    cases hv : validO o with
    | false => rw [hv] at v2; simp only [DT.get, v1, v2, Bool.not_false, cond_false, bare6]
    | true => rw [hv] at v2; simp only [DT.get, v1, v2, Bool.not_true, cond_true]
  exact DT.of_get key

theorem give_spec (o : Orbit) : spec_l03Give o = bif validO o then (o, true) else bare6 := by
  have e : spec_l03Is ⟨o.Long, o.Round, o.Tilt, o.Node, o.Peri, o.Phase⟩ = validO o := l03Is_eq o
  unfold spec_l03Give spec_l03Give_tree
  cases hv : validO o with
  | false => rw [hv] at e; simp only [DT.val, e, Bool.not_false, cond_false, bare6]
  | true => rw [hv] at e; simp only [DT.val, e, Bool.not_true, cond_true]

theorem six (x y z w p q : Nat) : (impl_orbitFrom_need [x, y, z, w, p, q] = true ∧ impl_orbitFrom [x, y, z, w, p, q] = ⟨x, y, z, w, p, q⟩) ∧ spec_l08From_need [x, y, z, w, p, q] = true ∧ spec_l08From [x, y, z, w, p, q] = ⟨x, y, z, w, p, q⟩ :=
  ⟨⟨rfl, rfl⟩, rfl, rfl⟩

theorem orbitR_other {a : List UInt8} {l : List Nat} (hr : numsR a = some l) (hl : decide (l.length = 6) = false) : orbitR a = bare6 := by
  unfold orbitR
  rw [hr]
  match l, hl with
  | [], _ => rfl
  | [_], _ => rfl
  | [_, _], _ => rfl
  | [_, _, _], _ => rfl
  | [_, _, _, _], _ => rfl
  | [_, _, _, _, _], _ => rfl
  | _ :: _ :: _ :: _ :: _ :: _ :: _ :: _, _ => rfl
  | [_, _, _, _, _, _], h => cases h

theorem readOrbit_impl (a : List UInt8) (ha : a.length ≤ 2 ^ 30) : impl_ReadOrbit_need a = true ∧ impl_ReadOrbit a = orbitR a := by
  obtain ⟨n1, n2⟩ := nums_impl a ha
  have key : (impl_ReadOrbit_tree a).get = some (orbitR a) := by
    unfold impl_ReadOrbit_tree
    unfold outR at n2
    cases hr : numsR a with
    | none =>
      rw [hr] at n2
      simp only at n2
      have : orbitR a = bare6 := by unfold orbitR; rw [hr]
      simp only [DT.get, n1, n2, isL, this, bare6]
    | some l =>
      rw [hr] at n2
      simp only at n2
      cases hl : decide (l.length = 6) with
      | false =>
        have hne : (((List.length l : Nat) : Int) != 6) = true := ne_len hl
        simp only [DT.get, n1, n2, isL, leftD, hne, orbitR_other hr hl, bare6]
      | true =>
        obtain ⟨x, y, z, w, p, q, rfl⟩ := len6 (of_decide_eq_true hl)
        obtain ⟨⟨s1, s2⟩, _, _⟩ := six x y z w p q
        obtain ⟨v1, v2⟩ := valid_impl ⟨x, y, z, w, p, q⟩
        have ho : orbitR a = bif validO ⟨x, y, z, w, p, q⟩ then (⟨x, y, z, w, p, q⟩, true) else bare6 := by unfold orbitR; rw [hr]
        have hne : (((List.length [x, y, z, w, p, q] : Nat) : Int) != 6) = false := rfl
        simp only [DT.get, n1, n2, isL, leftD, hne, s1, s2, v1, v2, ho]
  exact DT.of_get key

theorem readOrbit_spec (a : List UInt8) (ha : a.length ≤ 2 ^ 30) : spec_ReadOrbit_need a = true ∧ spec_ReadOrbit a = orbitR a := by
  obtain ⟨n1, n2⟩ := nums_spec a ha
  have key : (spec_l08ReadOrbit_tree a).get = some (orbitR a) := by
    unfold spec_l08ReadOrbit_tree
    unfold outR at n2
    cases hr : numsR a with
    | none =>
      rw [hr] at n2
      simp only at n2
      have : orbitR a = bare6 := by unfold orbitR; rw [hr]
      simp only [DT.get, n1, n2, isL, this, bare6]
    | some l =>
      rw [hr] at n2
      simp only at n2
      cases hl : decide (l.length = 6) with
      | false =>
        have hne : (((List.length l : Nat) : Int) != 6) = true := ne_len hl
        simp only [DT.get, n1, n2, isL, leftD, hne, orbitR_other hr hl, bare6]
      | true =>
        obtain ⟨x, y, z, w, p, q, rfl⟩ := len6 (of_decide_eq_true hl)
        obtain ⟨_, s1, s2⟩ := six x y z w p q
        have v2 := give_spec ⟨x, y, z, w, p, q⟩
        have ho : orbitR a = bif validO ⟨x, y, z, w, p, q⟩ then (⟨x, y, z, w, p, q⟩, true) else bare6 := by unfold orbitR; rw [hr]
        have hne : (((List.length [x, y, z, w, p, q] : Nat) : Int) != 6) = false := rfl
        simp only [DT.get, n1, n2, isL, leftD, hne, s1, s2, v2, ho]
  obtain ⟨k1, k2⟩ := DT.of_get key
  have k1 : spec_l08ReadOrbit_need a = true := k1
  have k2 : spec_l08ReadOrbit a = orbitR a := k2
  have key2 : (spec_ReadOrbit_tree a).get = some (orbitR a) := by
    unfold spec_ReadOrbit_tree
    simp only [DT.get, k1, k2]
  exact DT.of_get key2

theorem plain9 (a : List UInt8) : laws_FnExactReadOrbit_need a = true ∧ laws_FnExactReadOrbit a = true := by
  have key : (laws_FnExactReadOrbit_tree a).get = some true := by
    unfold laws_FnExactReadOrbit_tree
    cases hs : decide (((List.length a : Nat) : Int) > 1048576) with
    | true => simp only [DT.get, hs]
    | false =>
      have ha : a.length ≤ 2 ^ 30 := by
        have := of_decide_eq_false hs
        omega
      obtain ⟨p1, p2⟩ := readOrbit_impl a ha
      obtain ⟨q1, q2⟩ := readOrbit_spec a ha
      simp only [DT.get, hs, p1, p2, q1, q2, (eqOrbit_self _).1, (eqOrbit_self _).2, Bool.not_true, beq_self_eq_true]
  exact DT.of_get key

end Go.Proofs.YtcipkfndnkmjlaaDoor
