/- The law of catalogs, part 1: names, orbits, entries and lists of entries that are valid. -/
import Derived.Test.YtnmeiodaeaabfaaGC
import Derived.Test.YtnmeiodaeaabfaaEngX
namespace Go.Proofs.Ytnmeiodaeaabfaa
set_option linter.unusedVariables false
set_option linter.unusedSimpArgs false

theorem IsFinite_need (x : Nat) : impl_IsFinite_need x = true := by
  unfold impl_IsFinite_need impl_IsFinite_tree
  simp only [DT.ok, fconvOk_up]
theorem l01Finite_eq (x : Nat) : spec_l01Finite x = isNum .f32 x := finite_same .f32 x
theorem math_Abs_eq {x : Nat} (h : isNaN .f64 x = false) : math_Abs x = fabs x := by
  unfold math_Abs math_Abs_tree
  simp only [DT.val, h]
  rfl
theorem impl_finite_eq (x : Nat) : impl_finite x = isNum .f64 x := by
  unfold impl_finite impl_finite_tree
  have h1 : math_IsNaN x = isNaN .f64 x := fne_self .f64 x
  simp only [DT.val, h1]
  cases hn : isNaN .f64 x with
  | true =>
    rcases kinds .f64 x with ⟨s, m, p, hd, h1, h2⟩ | ⟨s, hd, h1, h2⟩ | ⟨s, t, hd, h1, h2⟩
    · rw [h2] at hn; cases hn
    · rw [h2] at hn; cases hn
    · rw [h1]; rfl
  | false =>
    have h2 : math_IsInf x 0 = fgt .f64 (math_Abs x) 9218868437227405311 := rfl
    rw [h2, math_Abs_eq hn, inf_abs hn]
    simp
theorem IsFinite_eq (x : Nat) : impl_IsFinite x = isNum .f32 x := by
  show impl_finite (fconv .f32 x .f64) = _
  rw [impl_finite_eq, isNum_up]

theorem getD_set {α : Type} {l : List α} {i : Nat} {x d : α} (h : i < l.length) : List.getD (List.set l i x) i d = x := by
  rw [List.getD_eq_getElem?_getD, List.getElem?_set_self h, Option.getD_some]
theorem getD_set_ne {α : Type} {l : List α} {i j : Nat} {x d : α} (h : i ≠ j) : List.getD (List.set l i x) j d = List.getD l j d := by
  rw [List.getD_eq_getElem?_getD, List.getD_eq_getElem?_getD, List.getElem?_set_ne h]

theorem areFinite_1_eq (i : Nat) : impl_areFinite_1_need i = true ∧ impl_areFinite_1 i = !isNum .f32 i := by
  unfold impl_areFinite_1_need impl_areFinite_1 impl_areFinite_1_tree
  simp only [DT.ok, DT.val, IsFinite_need, IsFinite_eq]
  exact ⟨trivial, trivial⟩

theorem areFinite_eq (l : List Nat) (hl : l.length ≤ 2 ^ 62) : impl_areFinite_need l = true ∧ impl_areFinite l = l.all (isNum .f32) := by
  obtain ⟨h1, h2⟩ := scan_loop (α := Int) (β := Unit) (step := slices_IndexFunc___float32_float32__impl_areFinite_1_loop0_step (l, ((l.length : Nat) : Int))) l.length (fun i => bif isNum .f32 (l.getD i default) then none else some (i : Int)) () (fun i hi => by
    refine ⟨[], ?_⟩
    unfold slices_IndexFunc___float32_float32__impl_areFinite_1_loop0_step
    simp only [DT.get, nat_dec hi, nat_in hi, (areFinite_1_eq _).1, (areFinite_1_eq _).2, Int.toNat_natCast, nat_next hi hl]
    cases isNum .f32 (l.getD i default) <;> rfl) ⟨[], by
    unfold slices_IndexFunc___float32_float32__impl_areFinite_1_loop0_step
    simp only [DT.get, nat_not]⟩
  have hall := firstOf_all (isNum .f32) (fun i => (i : Int)) default l
  have h1 : slices_IndexFunc___float32_float32__impl_areFinite_1_loop0_ends (l, ((l.length : Nat) : Int)) 0 = true := h1
  have h2 : slices_IndexFunc___float32_float32__impl_areFinite_1_loop0 (l, ((l.length : Nat) : Int)) 0 = _ := h2
  have key : slices_IndexFunc___float32_float32__impl_areFinite_1_need l = true ∧ decide (slices_IndexFunc___float32_float32__impl_areFinite_1 l ≥ 0) = !l.all (isNum .f32) := by
    unfold slices_IndexFunc___float32_float32__impl_areFinite_1_need slices_IndexFunc___float32_float32__impl_areFinite_1 slices_IndexFunc___float32_float32__impl_areFinite_1_tree
    simp only [DT.ok, DT.val, h1, h2]
    rw [← hall]
    cases hf : firstOf (fun i => bif isNum .f32 (l.getD i default) then none else some (i : Int)) l.length with
    | none => constructor <;> first | trivial | rfl
    | some a =>
      have ha : 0 ≤ a := by
        unfold firstOf at hf
        obtain ⟨i, _, hi⟩ := List.exists_of_findSome?_eq_some hf
        cases hq : isNum .f32 (l.getD i default) <;> rw [hq] at hi
        · simp only [cond_false, Option.some.injEq] at hi; omega
        · cases hi
      simp only [isL, leftD]
      exact ⟨trivial, decide_eq_true ha⟩
  have key2 : slices_ContainsFunc___float32_float32__impl_areFinite_1_need l = true ∧ slices_ContainsFunc___float32_float32__impl_areFinite_1 l = !l.all (isNum .f32) := by
    unfold slices_ContainsFunc___float32_float32__impl_areFinite_1_need slices_ContainsFunc___float32_float32__impl_areFinite_1 slices_ContainsFunc___float32_float32__impl_areFinite_1_tree
    simp only [DT.ok, DT.val, key.1, key.2]
    exact ⟨trivial, trivial⟩
  unfold impl_areFinite_need impl_areFinite impl_areFinite_tree
  simp only [DT.ok, DT.val, key2.1, key2.2, Bool.not_not]
  exact ⟨trivial, trivial⟩

theorem aLength_same (x : Nat) : impl_aLength_need x = true ∧ impl_aLength x = spec_l02Above x := by
  unfold impl_aLength_need impl_aLength impl_aLength_tree spec_l02Above spec_l02Above_tree
  simp only [DT.ok, DT.val, IsFinite_need, IsFinite_eq, l01Finite_eq]
  cases isNum .f32 x <;> constructor <;> first | trivial | rfl
def turnB (x : Nat) : Bool := fge .f32 x 0 && flt .f32 x 1065353216
def validO (o : Orbit) : Bool := isNum .f32 o.Long && (isNum .f32 o.Round && ((fge .f32 o.Tilt 0 && fle .f32 o.Tilt 1056964608) && (turnB o.Node && (turnB o.Peri && match fgt .f32 o.Long 0 with
  | true => fge .f32 o.Round 0 && (flt .f32 o.Round 1065353216 && turnB o.Phase)
  | false => flt .f32 o.Long 0 && (fgt .f32 o.Round 1065353216 && (fge .f32 o.Phase 3246391296 && fle .f32 o.Phase 1098907648))))))

theorem l03Turn_eq (x : Nat) : spec_l03Turn x = turnB x := by
  unfold spec_l03Turn spec_l03Turn_tree turnB
  cases h : fge .f32 x 0 <;> simp only [DT.val, h] <;> rfl
theorem isTurn_eq (x : Nat) : impl_isTurn x = turnB x := by
  unfold impl_isTurn impl_isTurn_tree turnB
  cases h : fge .f32 x 0 <;> simp only [DT.val, h] <;> rfl

theorem l03Is_eq (o : Orbit) : spec_l03Is o = validO o := by
  unfold spec_l03Is spec_l03Is_tree validO
  simp only [l01Finite_eq, l03Turn_eq]
  generalize turnB o.Node = t1
  generalize turnB o.Peri = t2
  generalize turnB o.Phase = t3
  cases isNum .f32 o.Long <;> cases isNum .f32 o.Round <;> try rfl
  cases fge .f32 o.Tilt 0 <;> cases fle .f32 o.Tilt 1056964608 <;> cases t1 <;> cases t2 <;> try rfl
  cases fgt .f32 o.Long 0
  · cases flt .f32 o.Long 0 <;> cases fgt .f32 o.Round 1065353216 <;> cases fge .f32 o.Phase 3246391296 <;> rfl
  · cases fge .f32 o.Round 0 <;> cases flt .f32 o.Round 1065353216 <;> rfl

theorem consts32 : isNum .f32 0 = true ∧ isNum .f32 1065353216 = true ∧ isNum .f32 1056964608 = true ∧ isNum .f32 3246391296 = true ∧ isNum .f32 1098907648 = true := by decide +kernel

theorem turn_num {x : Nat} (h : turnB x = true) : isNum .f32 x = true := by
  unfold turnB at h
  rw [Bool.and_eq_true] at h
  exact num_between consts32.1 consts32.2.1 h.1 (.inl h.2)

theorem fgt_flt {x : Nat} (h : fgt .f32 x 0 = true) : flt .f32 x 0 = false := by
  unfold fgt at h
  unfold flt
  cases hx : FloatKind.f32.format.order x 0 with
  | none => rw [hx] at h; cases h
  | some o => rw [hx] at h; cases o <;> first | rfl | cases h

theorem ValidOrbit_eq (o : Orbit) : impl_ValidOrbit_need o = true ∧ impl_ValidOrbit o = validO o := by
  obtain ⟨a1, a2⟩ := areFinite_eq [o.Long, o.Round, o.Tilt, o.Node, o.Peri, o.Phase] (by show 6 ≤ 2 ^ 62; decide)
  refine ⟨?_, ?_⟩
  · unfold impl_ValidOrbit_need impl_ValidOrbit_tree
    simp only [DT.ok, a1, a2]
    repeat' split
    all_goals rfl
  · have he : impl_Orbit_isEllipse o = (fgt .f32 o.Long 0 && (fge .f32 o.Round 0 && (flt .f32 o.Round 1065353216 && turnB o.Phase))) := by
      unfold impl_Orbit_isEllipse impl_Orbit_isEllipse_tree
      simp only [isTurn_eq]
      cases fgt .f32 o.Long 0 <;> cases fge .f32 o.Round 0 <;> cases flt .f32 o.Round 1065353216 <;> rfl
    have hb : impl_Orbit_isBranch o = (flt .f32 o.Long 0 && (fgt .f32 o.Round 1065353216 && (fge .f32 o.Phase 3246391296 && fle .f32 o.Phase 1098907648))) := by
      unfold impl_Orbit_isBranch impl_Orbit_isBranch_tree
      cases flt .f32 o.Long 0 <;> cases fgt .f32 o.Round 1065353216 <;> cases fge .f32 o.Phase 3246391296 <;> rfl
    cases hv : validO o with
    | true =>
      have hv0 := hv
      unfold validO at hv
      simp only [Bool.and_eq_true] at hv
      obtain ⟨h1, h2, ⟨h3, h4⟩, h5, h6, h7⟩ := hv
      have n3 := num_between consts32.1 consts32.2.2.1 h3 (.inr h4)
      have n6 : isNum .f32 o.Phase = true := by
        cases hg : fgt .f32 o.Long 0 with
        | true =>
          rw [hg] at h7
          simp only [Bool.and_eq_true] at h7
          exact turn_num h7.2.2
        | false =>
          rw [hg] at h7
          simp only [Bool.and_eq_true] at h7
          exact num_between consts32.2.2.2.1 consts32.2.2.2.2 h7.2.2.1 (.inr h7.2.2.2)
      have hall : [o.Long, o.Round, o.Tilt, o.Node, o.Peri, o.Phase].all (isNum .f32) = true := by
        simp only [List.all_cons, List.all_nil, h1, h2, n3, turn_num h5, turn_num h6, n6, Bool.and_self]
      have hor : (impl_Orbit_isEllipse o || impl_Orbit_isBranch o) = true := by
        rw [he, hb]
        cases hg : fgt .f32 o.Long 0 with
        | true =>
          rw [hg] at h7
          have h7 : (fge .f32 o.Round 0 && (flt .f32 o.Round 1065353216 && turnB o.Phase)) = true := h7
          rw [h7]
          rfl
        | false =>
          rw [hg] at h7
          have h7 : (flt .f32 o.Long 0 && (fgt .f32 o.Round 1065353216 && (fge .f32 o.Phase 3246391296 && fle .f32 o.Phase 1098907648))) = true := h7
          rw [h7]
          rfl
      have he' : impl_Orbit_isEllipse (⟨o.Long, o.Round, o.Tilt, o.Node, o.Peri, o.Phase⟩ : Orbit) = impl_Orbit_isEllipse o := rfl
      have hb' : impl_Orbit_isBranch (⟨o.Long, o.Round, o.Tilt, o.Node, o.Peri, o.Phase⟩ : Orbit) = impl_Orbit_isBranch o := rfl
      unfold impl_ValidOrbit impl_ValidOrbit_tree
      simp only [DT.val, a2, hall, h3, h4, isTurn_eq, h5, h6, he', hb']
      cases hq : impl_Orbit_isEllipse o with
      | true => rfl
      | false => rw [hq, Bool.false_or] at hor; exact hor
    | false =>
      have he' : impl_Orbit_isEllipse (⟨o.Long, o.Round, o.Tilt, o.Node, o.Peri, o.Phase⟩ : Orbit) = impl_Orbit_isEllipse o := rfl
      have hb' : impl_Orbit_isBranch (⟨o.Long, o.Round, o.Tilt, o.Node, o.Peri, o.Phase⟩ : Orbit) = impl_Orbit_isBranch o := rfl
      have hform : impl_ValidOrbit o = (([o.Long, o.Round, o.Tilt, o.Node, o.Peri, o.Phase].all (isNum .f32)) && ((fge .f32 o.Tilt 0 && fle .f32 o.Tilt 1056964608) && (turnB o.Node && (turnB o.Peri && (impl_Orbit_isEllipse o || impl_Orbit_isBranch o))))) := by
        unfold impl_ValidOrbit impl_ValidOrbit_tree
        simp only [a2, isTurn_eq, he', hb']
        generalize [o.Long, o.Round, o.Tilt, o.Node, o.Peri, o.Phase].all (isNum .f32) = c
        generalize turnB o.Node = t1
        generalize turnB o.Peri = t2
        cases c <;> cases fge .f32 o.Tilt 0 <;> cases fle .f32 o.Tilt 1056964608 <;> cases t1 <;> cases t2 <;> cases impl_Orbit_isEllipse o <;> rfl
      rw [hform]
      refine Bool.eq_false_iff.2 fun ht => ?_
      simp only [Bool.and_eq_true, List.all_cons] at ht
      obtain ⟨⟨h1, h2, _⟩, ⟨h3, h4⟩, h5, h6, h7⟩ := ht
      rw [he, hb] at h7
      unfold validO at hv
      rw [h1, h2, h3, h4, h5, h6] at hv
      cases hg : fgt .f32 o.Long 0 with
      | true =>
        rw [hg, fgt_flt hg, Bool.false_and, Bool.or_false, Bool.true_and] at h7
        rw [hg] at hv
        simp only [Bool.true_and] at hv
        rw [h7] at hv
        cases hv
      | false =>
        rw [hg, Bool.false_and, Bool.false_or] at h7
        rw [hg] at hv
        simp only [Bool.true_and] at hv
        rw [h7] at hv
        cases hv


/-! ## Names and entries -/

theorem name_loops (l : List UInt8) : (∀ s, loopVal (impl_IsName_loop0_step (l, ((l.length : Nat) : Int))) s = loopVal (spec_l07Name_loop0_step l) s) ∧ ∀ s, loopEnds (impl_IsName_loop0_step (l, ((l.length : Nat) : Int))) s = loopEnds (spec_l07Name_loop0_step l) s :=
  loop_alike fun s => rfl

theorem name_ends (l : List UInt8) (hl : l.length ≤ 2 ^ 62) : spec_l07Name_loop0_ends l 0 = true := by
  obtain ⟨h1, _⟩ := scan_loop (α := Unit) (β := Unit) (step := spec_l07Name_loop0_step l) l.length (fun i => bif decide (((l.getD i 0).toNat : Int) < 97) || decide (((l.getD i 0).toNat : Int) > 122) then some () else none) () (fun i hi => by
    refine ⟨[], ?_⟩
    unfold spec_l07Name_loop0_step
    simp only [DT.get, nat_dec hi, nat_ge, Bool.and_self, Int.toNat_natCast, nat_next hi hl]
    cases decide (((l.getD i 0).toNat : Int) < 97) <;> cases decide (((l.getD i 0).toNat : Int) > 122) <;> rfl) ⟨[], by
    unfold spec_l07Name_loop0_step
    simp only [DT.get, nat_not]⟩
  exact h1

theorem name_same (l : List UInt8) (hl : l.length ≤ 2 ^ 62) : impl_IsName_need l = true ∧ spec_l07Name_need l = true ∧ impl_IsName l = spec_l07Name l := by
  have hs := name_ends l hl
  have hi : impl_IsName_loop0_ends (l, ((l.length : Nat) : Int)) 0 = true := ((name_loops l).2 0).trans hs
  have hv : impl_IsName_loop0 (l, ((l.length : Nat) : Int)) 0 = spec_l07Name_loop0 l 0 := (name_loops l).1 0
  refine ⟨?_, ?_, ?_⟩
  · unfold impl_IsName_need impl_IsName_tree
    simp only [DT.ok, hi]
    repeat' split
    all_goals rfl
  · unfold spec_l07Name_need spec_l07Name_tree
    simp only [DT.ok, hs]
    repeat' split
    all_goals rfl
  · unfold impl_IsName impl_IsName_tree spec_l07Name spec_l07Name_tree
    simp only [DT.val, hv]

theorem entry_same (e : Entry) (hl : e.Name.length ≤ 2 ^ 62) : impl_ValidEntry_need e = true ∧ spec_l07Entry_need e = true ∧ impl_ValidEntry e = spec_l07Entry e := by
  obtain ⟨n1, n2, n3⟩ := name_same e.Name hl
  obtain ⟨m1, m2⟩ := aLength_same e.Mass
  obtain ⟨o1, o2⟩ := ValidOrbit_eq (⟨e.Orb.Long, e.Orb.Round, e.Orb.Tilt, e.Orb.Node, e.Orb.Peri, e.Orb.Phase⟩ : Orbit)
  have o3 := l03Is_eq (⟨e.Orb.Long, e.Orb.Round, e.Orb.Tilt, e.Orb.Node, e.Orb.Peri, e.Orb.Phase⟩ : Orbit)
  refine ⟨?_, ?_, ?_⟩
  · unfold impl_ValidEntry_need impl_ValidEntry_tree
    simp only [DT.ok, n1, m1, o1]
    repeat' split
    all_goals rfl
  · unfold spec_l07Entry_need spec_l07Entry_tree
    simp only [DT.ok, n2]
    repeat' split
    all_goals rfl
  · unfold impl_ValidEntry impl_ValidEntry_tree spec_l07Entry spec_l07Entry_tree
    simp only [DT.val, n3, m2, o2, o3]

theorem getD_mem {α : Type} {l : List α} {d : α} {i : Nat} (h : i < l.length) : l.getD i d ∈ l := by
  rw [List.getD_eq_getElem?_getD, List.getElem?_eq_getElem h]
  exact List.getElem_mem h

/-! ## That lists are entries -/

noncomputable def goodE (l : List Entry) (i : Nat) : Bool := spec_l07Entry (l.getD i default) && (decide (i = 0) || Op.bytesLess (l.getD (i - 1) default).Name (l.getD i default).Name)
noncomputable def firstE (l : List Entry) : Option Unit := firstOf (fun i => bif goodE l i then none else some ()) l.length
/-- Entries. -/
noncomputable def okE (l : List Entry) : Bool := decide (((l.length : Nat) : Int) ≤ 16) && (firstE l).isNone

theorem entries_round (l : List Entry) (hl : l.length ≤ 2 ^ 40) (hf : ∀ e ∈ l, e.Name.length ≤ 2 ^ 62) (i : Nat) (hi : i < l.length) : (impl_AreEntries_loop0_step (l, l, ((l.length : Nat) : Int)) i).get = some ((bif goodE l i then .inl ((i + 1 : Nat) : Int) else .inr (.inl ())), []) ∧
    (decide (((l.length : Nat) : Int) ≤ 16) = true → (spec_l07List_loop0_step l i).get = some ((bif goodE l i then .inl ((i + 1 : Nat) : Int) else .inr (.inl ())), [])) := by
  have e1 : (⟨(l.getD i default).Name, (l.getD i default).Mass, ⟨(l.getD i default).Orb.Long, (l.getD i default).Orb.Round, (l.getD i default).Orb.Tilt, (l.getD i default).Orb.Node, (l.getD i default).Orb.Peri, (l.getD i default).Orb.Phase⟩⟩ : Entry) = l.getD i default := rfl
  obtain ⟨s1, s2, s3⟩ := entry_same (l.getD i default) (hf _ (getD_mem hi))
  have hn := nat_next hi (by omega)
  unfold impl_AreEntries_loop0_step spec_l07List_loop0_step goodE
  cases hv : spec_l07Entry (l.getD i default) with
  | false =>
    constructor
    · simp only [DT.get, nat_dec hi, nat_ge, Bool.and_self, Int.toNat_natCast, e1, s1, s3, hv, Bool.not_false, Bool.false_and, cond_false]
    · intro h16
      simp only [DT.get, nat_dec hi, nat_ge, Bool.and_self, Int.toNat_natCast, e1, h16, s2, hv, Bool.not_false, Bool.false_and, cond_false]
  | true =>
    rcases Nat.eq_zero_or_pos i with hz | hz
    · subst hz
      have d0 : decide (((0 : Nat) : Int) > 0) = false := rfl
      constructor
      · simp only [DT.get, nat_dec hi, nat_ge, Bool.and_self, Int.toNat_natCast, e1, s1, s3, hv, Bool.not_true, d0, hn, decide_true, Bool.true_or, Bool.true_and, cond_true]
      · intro h16
        simp only [DT.get, nat_dec hi, nat_ge, Bool.and_self, Int.toNat_natCast, e1, h16, s2, hv, Bool.not_true, d0, hn, decide_true, Bool.true_or, Bool.true_and, cond_true]
    · have d0 : decide (((i : Nat) : Int) > 0) = true := decide_eq_true (by omega)
      have hw : IntKind.wrap .i64 (((i : Nat) : Int) - 1) = ((i - 1 : Nat) : Int) := by rw [wrap_small (by omega) (by omega)]; omega
      have hi' : i - 1 < l.length := by omega
      have hz0 : decide (i = 0) = false := decide_eq_false (by omega)
      constructor
      · cases hb : Op.bytesLess (l.getD (i - 1) default).Name (l.getD i default).Name <;>
        simp only [DT.get, nat_dec hi, nat_ge, Bool.and_self, Int.toNat_natCast, e1, s1, s3, hv, Bool.not_true, Bool.not_false, d0, hw, nat_dec hi', hn, hz0, hb, Bool.false_or, Bool.true_and, cond_true, cond_false]
      · intro h16
        cases hb : Op.bytesLess (l.getD (i - 1) default).Name (l.getD i default).Name <;>
        simp only [DT.get, nat_dec hi, nat_ge, Bool.and_self, Int.toNat_natCast, e1, h16, s2, hv, Bool.not_true, Bool.not_false, d0, hw, nat_dec hi', hn, hz0, hb, Bool.false_or, Bool.true_and, cond_true, cond_false]

theorem AreEntries_eq (l : List Entry) (hl : l.length ≤ 2 ^ 40) (hf : ∀ e ∈ l, e.Name.length ≤ 2 ^ 62) : impl_AreEntries_need l = true ∧ impl_AreEntries l = okE l := by
  obtain ⟨h1, h2⟩ := scan_loop (α := Unit) (β := Unit) (step := impl_AreEntries_loop0_step (l, l, ((l.length : Nat) : Int))) l.length (fun i => bif goodE l i then none else some ()) () (fun i hi => ⟨[], by rw [(entries_round l hl hf i hi).1]; cases goodE l i <;> rfl⟩) ⟨[], by
    unfold impl_AreEntries_loop0_step
    simp only [DT.get, nat_not]⟩
  have h1 : impl_AreEntries_loop0_ends (l, l, ((l.length : Nat) : Int)) 0 = true := h1
  have key : (impl_AreEntries_tree l).get = some (okE l) := by
    unfold impl_AreEntries_tree okE
    cases hq : firstE l with
    | none =>
      have hq : firstOf (fun i => bif goodE l i then none else some ()) l.length = none := hq
      rw [hq] at h2
      have h2 : impl_AreEntries_loop0 (l, l, ((l.length : Nat) : Int)) 0 = .inr () := h2
      simp only [DT.get, h1, h2, isL, Option.isNone_none, Bool.and_true]
    | some a =>
      have hq : firstOf (fun i => bif goodE l i then none else some ()) l.length = some a := hq
      rw [hq] at h2
      have h2 : impl_AreEntries_loop0 (l, l, ((l.length : Nat) : Int)) 0 = .inl a := h2
      simp only [DT.get, h1, h2, isL, Option.isNone_some, Bool.and_false]
  exact DT.of_get key

theorem l07List_eq (l : List Entry) (hl : l.length ≤ 2 ^ 40) (hf : ∀ e ∈ l, e.Name.length ≤ 2 ^ 62) : spec_l07List_need l = true ∧ spec_l07List l = okE l := by
  cases h16 : decide (((l.length : Nat) : Int) ≤ 16) with
  | true =>
    obtain ⟨h1, h2⟩ := scan_loop (α := Unit) (β := Unit) (step := spec_l07List_loop0_step l) l.length (fun i => bif goodE l i then none else some ()) () (fun i hi => ⟨[], by rw [(entries_round l hl hf i hi).2 h16]; cases goodE l i <;> rfl⟩) ⟨[], by
      unfold spec_l07List_loop0_step
      simp only [DT.get, nat_not]⟩
    have h1 : spec_l07List_loop0_ends l 0 = true := h1
    have key : (spec_l07List_tree l).get = some (okE l) := by
      unfold spec_l07List_tree okE
      cases hq : firstE l with
      | none =>
        have hq : firstOf (fun i => bif goodE l i then none else some ()) l.length = none := hq
        rw [hq] at h2
        have h2 : spec_l07List_loop0 l 0 = .inr () := h2
        simp only [DT.get, h1, h2, isL, Option.isNone_none, Bool.and_true, h16]
      | some a =>
        have hq : firstOf (fun i => bif goodE l i then none else some ()) l.length = some a := hq
        rw [hq] at h2
        have h2 : spec_l07List_loop0 l 0 = .inl a := h2
        simp only [DT.get, h1, h2, isL, Option.isNone_some, Bool.and_false]
    exact DT.of_get key
  | false =>
    have h16' := of_decide_eq_false h16
    obtain ⟨h1, h2⟩ := loop_post (step := spec_l07List_loop0_step l) (fun s => s = 0) (fun _ => 0) (fun r => r = .inr ()) (by
      rintro s rfl
      have hd : decide ((0 : Int) < ((l.length : Nat) : Int)) = true := decide_eq_true (by omega)
      refine ⟨.inr (.inr ()), [], ?_, rfl⟩
      unfold spec_l07List_loop0_step
      simp only [DT.get, hd, h16]) 0 rfl
    have h1 : spec_l07List_loop0_ends l 0 = true := h1
    have h2 : spec_l07List_loop0 l 0 = .inr () := h2
    have key : (spec_l07List_tree l).get = some (okE l) := by
      unfold spec_l07List_tree okE
      simp only [DT.get, h1, h2, isL, h16, Bool.false_and]
    exact DT.of_get key

end Go.Proofs.Ytnmeiodaeaabfaa
