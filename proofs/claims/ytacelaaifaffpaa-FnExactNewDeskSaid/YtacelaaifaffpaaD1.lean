/- Plain facts of a new desk: lists of bodies, marks, two bodies on a circle. -/
import Derived.Test.YtacelaaifaffpaaGD
import Derived.Test.YtacelaaifaffpaaEngX
import Derived.Test.YtacelaaifaffpaaEngY
namespace Go.Proofs.Ytacelaaifaffpaa
set_option linter.unusedVariables false
set_option linter.unusedSimpArgs false

theorem IsFinite_need (x : Nat) : impl_IsFinite_need x = true := by
  unfold impl_IsFinite_need impl_IsFinite_tree
  simp only [DT.ok, fconvOk_up]
theorem l01Finite_eq (x : Nat) : spec_l01Finite x = isNum .f32 x := finite_same .f32 x
theorem math_Abs_eq {x : Nat} (h : isNaN .f64 x = false) : math_Abs x = fabs x := by
  unfold math_Abs math_Abs_tree
  simp only [DT.val, h]
  rfl
theorem impl_finite_eq (x : Nat) : impl_finite x = isNum .f64 x := by
  unfold impl_finite impl_finite_tree
  have h1 : math_IsNaN x = isNaN .f64 x := fne_self .f64 x
  simp only [DT.val, h1]
  cases hn : isNaN .f64 x with
  | true =>
    rcases kinds .f64 x with ⟨s, m, p, hd, h1, h2⟩ | ⟨s, hd, h1, h2⟩ | ⟨s, t, hd, h1, h2⟩
    · rw [h2] at hn; cases hn
    · rw [h2] at hn; cases hn
    · rw [h1]; rfl
  | false =>
    have h2 : math_IsInf x 0 = fgt .f64 (math_Abs x) 9218868437227405311 := rfl
    rw [h2, math_Abs_eq hn, inf_abs hn]
    simp
theorem IsFinite_eq (x : Nat) : impl_IsFinite x = isNum .f32 x := by
  show impl_finite (fconv .f32 x .f64) = _
  rw [impl_finite_eq, isNum_up]

theorem areFinite_1_eq (i : Nat) : impl_areFinite_1_need i = true ∧ impl_areFinite_1 i = !isNum .f32 i := by
  unfold impl_areFinite_1_need impl_areFinite_1 impl_areFinite_1_tree
  simp only [DT.ok, DT.val, IsFinite_need, IsFinite_eq]
  exact ⟨trivial, trivial⟩

theorem areFinite_eq (l : List Nat) (hl : l.length ≤ 2 ^ 62) : impl_areFinite_need l = true ∧ impl_areFinite l = l.all (isNum .f32) := by
  obtain ⟨h1, h2⟩ := scan_loop (α := Int) (β := Unit) (step := slices_IndexFunc___float32_float32__impl_areFinite_1_loop0_step (l, ((l.length : Nat) : Int))) l.length (fun i => bif isNum .f32 (l.getD i default) then none else some (i : Int)) () (fun i hi => by
    refine ⟨[], ?_⟩
    unfold slices_IndexFunc___float32_float32__impl_areFinite_1_loop0_step
    simp only [DT.get, nat_dec hi, nat_in hi, (areFinite_1_eq _).1, (areFinite_1_eq _).2, Int.toNat_natCast, nat_next hi hl]
    cases isNum .f32 (l.getD i default) <;> rfl) ⟨[], by
    unfold slices_IndexFunc___float32_float32__impl_areFinite_1_loop0_step
    simp only [DT.get, nat_not]⟩
  have hall := firstOf_all (isNum .f32) (fun i => (i : Int)) default l
  have h1 : slices_IndexFunc___float32_float32__impl_areFinite_1_loop0_ends (l, ((l.length : Nat) : Int)) 0 = true := h1
  have h2 : slices_IndexFunc___float32_float32__impl_areFinite_1_loop0 (l, ((l.length : Nat) : Int)) 0 = _ := h2
  have key : slices_IndexFunc___float32_float32__impl_areFinite_1_need l = true ∧ decide (slices_IndexFunc___float32_float32__impl_areFinite_1 l ≥ 0) = !l.all (isNum .f32) := by
    unfold slices_IndexFunc___float32_float32__impl_areFinite_1_need slices_IndexFunc___float32_float32__impl_areFinite_1 slices_IndexFunc___float32_float32__impl_areFinite_1_tree
    simp only [DT.ok, DT.val, h1, h2]
    rw [← hall]
    cases hf : firstOf (fun i => bif isNum .f32 (l.getD i default) then none else some (i : Int)) l.length with
    | none => constructor <;> first | trivial | rfl
    | some a =>
      have ha : 0 ≤ a := by
        unfold firstOf at hf
        obtain ⟨i, _, hi⟩ := List.exists_of_findSome?_eq_some hf
        cases hq : isNum .f32 (l.getD i default) <;> rw [hq] at hi
        · simp only [cond_false, Option.some.injEq] at hi; omega
        · cases hi
      simp only [isL, leftD]
      exact ⟨trivial, decide_eq_true ha⟩
  have key2 : slices_ContainsFunc___float32_float32__impl_areFinite_1_need l = true ∧ slices_ContainsFunc___float32_float32__impl_areFinite_1 l = !l.all (isNum .f32) := by
    unfold slices_ContainsFunc___float32_float32__impl_areFinite_1_need slices_ContainsFunc___float32_float32__impl_areFinite_1 slices_ContainsFunc___float32_float32__impl_areFinite_1_tree
    simp only [DT.ok, DT.val, key.1, key.2]
    exact ⟨trivial, trivial⟩
  unfold impl_areFinite_need impl_areFinite impl_areFinite_tree
  simp only [DT.ok, DT.val, key2.1, key2.2, Bool.not_not]
  exact ⟨trivial, trivial⟩

theorem sameFloat_self (x : Nat) : laws_sameFloat x x = true := by
  unfold laws_sameFloat laws_sameFloat_tree
  cases h1 : fne .f64 x x with
  | true => simp only [DT.val, h1]
  | false =>
    have h2 : feq .f64 x x = true := by
      have := fne_feq .f64 x x
      rw [h1] at this
      simpa using this.symm
    cases h3 : feq .f64 x 0 <;> simp only [DT.val, h1, h3, h2, beq_self_eq_true]

theorem eqVector_self (v : Vec) : laws_eqVector_need v v = true ∧ laws_eqVector v v = true := by
  unfold laws_eqVector_need laws_eqVector laws_eqVector_tree
  simp only [DT.ok, DT.val, fconvOk_up, sameFloat_self, Bool.not_true]
  exact ⟨trivial, trivial⟩

theorem eqBody_self (b : Body) : laws_eqBody_need b b = true ∧ laws_eqBody b b = true := by
  unfold laws_eqBody_need laws_eqBody laws_eqBody_tree
  simp only [DT.ok, DT.val, fconvOk_up, sameFloat_self, (eqVector_self _).1, (eqVector_self _).2, Bool.not_true]
  exact ⟨trivial, trivial⟩

theorem eqBodyS_self (l : List Body) (hl : l.length ≤ 2 ^ 62) : laws_eqBodyS_need l l = true ∧ laws_eqBodyS l l = true := by
  obtain ⟨h1, h2⟩ := scan_loop (α := Unit) (β := Unit) (step := laws_eqBodyS_loop0_step (l, l)) l.length (fun _ => none) () (fun i hi => ⟨[], by
    unfold laws_eqBodyS_loop0_step
    simp only [DT.get, nat_dec hi, nat_ge, Bool.and_self, (eqBody_self _).1, (eqBody_self _).2, Bool.not_true, nat_next hi hl]⟩) ⟨[], by
    unfold laws_eqBodyS_loop0_step
    simp only [DT.get, nat_not]⟩
  have hf : firstOf (fun _ => (none : Option Unit)) l.length = none := by
    unfold firstOf
    rw [List.findSome?_eq_none_iff]
    exact fun _ _ => rfl
  rw [hf] at h2
  have h1 : laws_eqBodyS_loop0_ends (l, l) 0 = true := h1
  have h2 : laws_eqBodyS_loop0 (l, l) 0 = .inr () := h2
  have hne : (((l.length : Nat) : Int) != ((l.length : Nat) : Int)) = false := by simp
  unfold laws_eqBodyS_need laws_eqBodyS laws_eqBodyS_tree
  simp only [DT.ok, DT.val, hne, h1, h2, isL]
  exact ⟨trivial, trivial⟩

/-! ## Marks -/

/-- What a body holds that is marked from k on. -/
def markB (k : Int) : Body := ⟨⟨fofInt .f32 k, fofInt .f32 (k + 1), fofInt .f32 (k + 2)⟩, ⟨fofInt .f32 (k + 3), fofInt .f32 (k + 4), fofInt .f32 (k + 5)⟩, fofInt .f32 (k + 6)⟩

theorem getD_set {α : Type} {l : List α} {i : Nat} {x d : α} (h : i < l.length) : List.getD (List.set l i x) i d = x := by
  rw [List.getD_eq_getElem?_getD, List.getElem?_set_self h, Option.getD_some]
theorem getD_set_ne {α : Type} {l : List α} {i j : Nat} {x d : α} (h : i ≠ j) : List.getD (List.set l i x) j d = List.getD l j d := by
  rw [List.getD_eq_getElem?_getD, List.getD_eq_getElem?_getD, List.getElem?_set_ne h]

theorem mark_step (l : List Body) (k : Int) (i : Nat) (hi : i < l.length) (hl : l.length ≤ 2 ^ 40) (hk : 0 ≤ k) (hk2 : k ≤ 2 ^ 50) :
    (laws_markBodyS_loop0_step () (k, (i : Int), l)).get = some (.inl (k + 7, ((i + 1 : Nat) : Int), List.set l i (markB k)), [0]) := by
  have hd : decide (((i : Nat) : Int) < ((l.length : Nat) : Int)) = true := nat_dec hi
  have hin : (decide ((0 : Int) ≤ ((i : Nat) : Int)) && decide (((i : Nat) : Int) < ((l.length : Nat) : Int))) = true := nat_in hi
  have hin2 : decide (Int.toNat ((i : Nat) : Int) < l.length) = true := decide_eq_true (by omega)
  have hlen : ∀ x : Body, (List.set l i x).length = l.length := fun x => List.length_set ..
  have ht : Int.toNat ((i : Nat) : Int) = i := Int.toNat_natCast i
  have h00 : decide ((0 : Int) ≤ ((i : Nat) : Int)) = true := decide_eq_true (by omega)
  have w1 : IntKind.wrap .i64 (k + 1) = k + 1 := wrap_small (by omega) (by omega)
  have w2 : IntKind.wrap .i64 (k + 1 + 1) = k + 2 := by rw [wrap_small (by omega) (by omega)]; omega
  have w3 : IntKind.wrap .i64 (k + 2 + 1) = k + 3 := by rw [wrap_small (by omega) (by omega)]; omega
  have w4 : IntKind.wrap .i64 (k + 3 + 1) = k + 4 := by rw [wrap_small (by omega) (by omega)]; omega
  have w5 : IntKind.wrap .i64 (k + 4 + 1) = k + 5 := by rw [wrap_small (by omega) (by omega)]; omega
  have w6 : IntKind.wrap .i64 (k + 5 + 1) = k + 6 := by rw [wrap_small (by omega) (by omega)]; omega
  have w7 : IntKind.wrap .i64 (k + 6 + 1) = k + 7 := by rw [wrap_small (by omega) (by omega)]; omega
  have wi : IntKind.wrap .i64 (((i : Nat) : Int) + 1) = ((i + 1 : Nat) : Int) := nat_next hi (by omega)
  unfold laws_markBodyS_loop0_step
  simp only [DT.get, hd, h00, Bool.and_self, hin2, ht, hlen, List.length_set, getD_set hi, List.set_set, w1, w2, w3, w4, w5, w6, w7, wi, markB, decide_eq_true hi]

theorem mark_all (l : List Body) (hl : l.length ≤ 2 ^ 40) : laws_markBodyS_need l 1 = true ∧ (laws_markBodyS l 1).1 = 1 + 7 * (l.length : Int) ∧ (laws_markBodyS l 1).2.length = l.length ∧ ∀ j, j < l.length → (laws_markBodyS l 1).2.getD j default = markB (1 + 7 * (j : Int)) := by
  obtain ⟨h1, h2⟩ := loop_post (step := laws_markBodyS_loop0_step ()) (fun s => ∃ i : Nat, s.2.1 = (i : Int) ∧ i ≤ l.length ∧ s.1 = 1 + 7 * (i : Int) ∧ s.2.2.length = l.length ∧ ∀ j, j < i → s.2.2.getD j default = markB (1 + 7 * (j : Int))) (fun s => l.length - s.2.1.toNat)
    (fun r => r.1 = 1 + 7 * (l.length : Int) ∧ r.2.length = l.length ∧ ∀ j, j < l.length → r.2.getD j default = markB (1 + 7 * (j : Int))) (by
    rintro ⟨k, s, m⟩ ⟨i, hs, hi, hk, hm, hj⟩
    simp only at hs hk hm hj
    subst hs hk
    rcases Nat.lt_or_ge i l.length with hlt | hge
    · refine ⟨_, _, mark_step m _ i (by omega) (by omega) (by omega) (by omega), ⟨i + 1, rfl, hlt, ?_, ?_, fun j hj' => ?_⟩, ?_⟩
      · show 1 + 7 * (i : Int) + 7 = _
        omega
      · rw [List.length_set]; exact hm
      · rcases Nat.lt_or_ge j i with h | h
        · rw [getD_set_ne (by omega)]; exact hj j h
        · rw [show j = i from by omega, getD_set (by omega)]
      · show l.length - ((i + 1 : Nat) : Int).toNat < l.length - ((i : Nat) : Int).toNat
        rw [Int.toNat_natCast, Int.toNat_natCast]
        omega
    · have he : i = l.length := Nat.le_antisymm hi hge
      refine ⟨.inr (1 + 7 * (i : Int), m), [0], ?_, ?_, hm, fun j hj' => hj j (by omega)⟩
      · unfold laws_markBodyS_loop0_step
        simp only [DT.get, hm, he, nat_not]
      · rw [he]) (1, 0, l) ⟨0, rfl, Nat.zero_le _, rfl, rfl, fun j hj => absurd hj (Nat.not_lt_zero j)⟩
  have h1 : laws_markBodyS_loop0_ends () (1, 0, l) = true := h1
  have hv : laws_markBodyS l 1 = ((laws_markBodyS_loop0 () (1, 0, l)).1, (laws_markBodyS_loop0 () (1, 0, l)).2) := rfl
  refine ⟨?_, ?_⟩
  · unfold laws_markBodyS_need laws_markBodyS_tree
    simp only [DT.ok, h1]
  · rw [hv]
    exact h2

theorem fne_mark {n : Int} (h0 : 0 ≤ n) (h : n ≤ 2 ^ 51) : fne .f32 (fofInt .f32 n) (fofInt .f32 n) = false := by
  rw [fne_self]
  exact fofInt_num (by omega) .f32

theorem held_all (l : List Body) (hl : l.length ≤ 2 ^ 40) (h : ∀ j, j < l.length → l.getD j default = markB (1 + 7 * (j : Int))) : laws_heldBodyS_need l 1 = true ∧ laws_heldBodyS l 1 = 1 + 7 * (l.length : Int) := by
  obtain ⟨h1, h2⟩ := loop_post (step := laws_heldBodyS_loop0_step l) (fun s => ∃ i : Nat, s.2 = (i : Int) ∧ i ≤ l.length ∧ s.1 = 1 + 7 * (i : Int)) (fun s => l.length - s.2.toNat)
    (fun r => r = .inr (1 + 7 * (l.length : Int))) (by
    rintro ⟨k, s⟩ ⟨i, hs, hi, hk⟩
    simp only at hs hk
    subst hs
    rcases Nat.lt_or_ge i l.length with hlt | hge
    · have hk0 : 0 ≤ k := by omega
      have hk1 : k ≤ 2 ^ 50 := by omega
      have hd := nat_dec hlt
      have hin := nat_in hlt
      have ht : Int.toNat ((i : Nat) : Int) = i := Int.toNat_natCast i
      have h00 : decide ((0 : Int) ≤ ((i : Nat) : Int)) = true := decide_eq_true (by omega)
      have w1 : IntKind.wrap .i64 (k + 1) = k + 1 := wrap_small (by omega) (by omega)
      have w2 : IntKind.wrap .i64 (k + 1 + 1) = k + 2 := by rw [wrap_small (by omega) (by omega)]; omega
      have w3 : IntKind.wrap .i64 (k + 2 + 1) = k + 3 := by rw [wrap_small (by omega) (by omega)]; omega
      have w4 : IntKind.wrap .i64 (k + 3 + 1) = k + 4 := by rw [wrap_small (by omega) (by omega)]; omega
      have w5 : IntKind.wrap .i64 (k + 4 + 1) = k + 5 := by rw [wrap_small (by omega) (by omega)]; omega
      have w6 : IntKind.wrap .i64 (k + 5 + 1) = k + 6 := by rw [wrap_small (by omega) (by omega)]; omega
      have w7 : IntKind.wrap .i64 (k + 6 + 1) = k + 7 := by rw [wrap_small (by omega) (by omega)]; omega
      have wi : IntKind.wrap .i64 (((i : Nat) : Int) + 1) = ((i + 1 : Nat) : Int) := nat_next hlt (by omega)
      have hg : l.getD i default = markB k := by rw [h i hlt, hk]
      have f0 := fne_mark (n := k) (by omega) (by omega)
      have f1 := fne_mark (n := k + 1) (by omega) (by omega)
      have f2 := fne_mark (n := k + 2) (by omega) (by omega)
      have f3 := fne_mark (n := k + 3) (by omega) (by omega)
      have f4 := fne_mark (n := k + 4) (by omega) (by omega)
      have f5 := fne_mark (n := k + 5) (by omega) (by omega)
      have f6 := fne_mark (n := k + 6) (by omega) (by omega)
      refine ⟨.inl (k + 7, ((i + 1 : Nat) : Int)), [], ?_, ⟨i + 1, rfl, hlt, ?_⟩, ?_⟩
      · unfold laws_heldBodyS_loop0_step
        simp only [DT.get, hd, h00, Bool.and_self, ht, hg, markB, w1, w2, w3, w4, w5, w6, w7, wi, f0, f1, f2, f3, f4, f5, f6]
      · show k + 7 = _
        omega
      · show l.length - ((i + 1 : Nat) : Int).toNat < l.length - ((i : Nat) : Int).toNat
        rw [Int.toNat_natCast, Int.toNat_natCast]
        omega
    · have he : i = l.length := Nat.le_antisymm hi hge
      refine ⟨.inr (.inr k), [], ?_, ?_⟩
      · unfold laws_heldBodyS_loop0_step
        simp only [DT.get, he, nat_not]
      · rw [hk, he]) (1, 0) ⟨0, rfl, Nat.zero_le _, rfl⟩
  have h1 : laws_heldBodyS_loop0_ends l (1, 0) = true := h1
  have h2 : laws_heldBodyS_loop0 l (1, 0) = .inr (1 + 7 * (l.length : Int)) := h2
  unfold laws_heldBodyS_need laws_heldBodyS laws_heldBodyS_tree
  simp only [DT.ok, DT.val, h1, h2, isL, rightD]
  exact ⟨trivial, trivial⟩

/-! ## That lists are bodies -/

def finV (v : Vec) : Bool := isNum .f32 v.X && isNum .f32 v.Y && isNum .f32 v.Z
def okB (b : Body) : Bool := finV b.At && finV b.Speed && (isNum .f32 b.Mass && fge .f32 b.Mass 0)

theorem l01VFinite_eq (v : Vec) : spec_l01VFinite v = finV v := by
  unfold spec_l01VFinite spec_l01VFinite_tree finV
  simp only [l01Finite_eq]
  cases isNum .f32 v.X <;> cases isNum .f32 v.Y <;> cases isNum .f32 v.Z <;> rfl
theorem l02Least_eq (x : Nat) : spec_l02Least x = (isNum .f32 x && fge .f32 x 0) := by
  unfold spec_l02Least spec_l02Least_tree
  simp only [l01Finite_eq]
  cases isNum .f32 x <;> rfl
theorem l02Body_eq (b : Body) : spec_l02Body b = okB b := by
  unfold spec_l02Body spec_l02Body_tree okB
  simp only [l01VFinite_eq, l02Least_eq]
  cases finV b.At <;> cases finV b.Speed <;> rfl

theorem isFiniteVector_eq (v : Vec) : impl_isFiniteVector_need v = true ∧ impl_isFiniteVector v = finV v := by
  have h := areFinite_eq [v.X, v.Y, v.Z] (by show 3 ≤ 2 ^ 62; decide)
  have ha : [v.X, v.Y, v.Z].all (isNum .f32) = finV v := by
    unfold finV
    simp only [List.all_cons, List.all_nil, Bool.and_true, Bool.and_assoc]
  have e : impl_Vector_numbers (⟨v.X, v.Y, v.Z⟩ : Vec) = [v.X, v.Y, v.Z] := rfl
  unfold impl_isFiniteVector_need impl_isFiniteVector impl_isFiniteVector_tree
  simp only [DT.ok, DT.val, e, h.1, h.2, ha]
  exact ⟨trivial, trivial⟩

theorem flt_fge {x : Nat} (h : isNum .f32 x = true) : flt .f32 x 0 = !fge .f32 x 0 := by
  have h0 : isNum .f32 0 = true := by decide +kernel
  rw [flt_num h h0, fge_num h h0, ← decide_not, decide_eq_decide]
  omega

theorem AreBodies_1_eq (b : Body) : impl_AreBodies_1_need b = true ∧ impl_AreBodies_1 b = !okB b := by
  unfold impl_AreBodies_1_need impl_AreBodies_1 impl_AreBodies_1_tree okB
  simp only [DT.ok, DT.val, (isFiniteVector_eq _).1, (isFiniteVector_eq _).2, IsFinite_need, IsFinite_eq]
  cases finV b.At <;> cases finV b.Speed <;> first
    | exact ⟨rfl, rfl⟩
    | (cases h : isNum .f32 b.Mass
       · exact ⟨rfl, rfl⟩
       · simp only [Bool.not_true, Bool.true_and, flt_fge h]
         exact ⟨trivial, trivial⟩)

/-- Bodies. -/
def okL (l : List Body) : Bool := decide (((l.length : Nat) : Int) ≤ 16) && l.all okB

theorem l02Are_eq (l : List Body) (hl : l.length ≤ 2 ^ 62) : spec_l02Are_need l = true ∧ spec_l02Are l = okL l := by
  unfold okL
  cases h16 : decide (((l.length : Nat) : Int) ≤ 16) with
  | false =>
    have h16' := of_decide_eq_false h16
    obtain ⟨h1, h2⟩ := loop_post (step := spec_l02Are_loop0_step l) (fun s => s = 0) (fun _ => 0) (fun r => r = .inr ()) (by
      rintro s rfl
      have hd : decide ((0 : Int) < ((l.length : Nat) : Int)) = true := decide_eq_true (by omega)
      refine ⟨.inr (.inr ()), [], ?_, rfl⟩
      unfold spec_l02Are_loop0_step
      simp only [DT.get, hd, h16]) 0 rfl
    have h1 : spec_l02Are_loop0_ends l 0 = true := h1
    have h2 : spec_l02Are_loop0 l 0 = .inr () := h2
    unfold spec_l02Are_need spec_l02Are spec_l02Are_tree
    simp only [DT.ok, DT.val, h1, h2, isL, h16, Bool.false_and]
    exact ⟨trivial, trivial⟩
  | true =>
    obtain ⟨h1, h2⟩ := scan_loop (α := Unit) (β := Unit) (step := spec_l02Are_loop0_step l) l.length (fun i => bif okB (l.getD i default) then none else some ()) () (fun i hi => by
      refine ⟨[], ?_⟩
      unfold spec_l02Are_loop0_step
      simp only [DT.get, nat_dec hi, nat_in hi, h16, l02Body_eq, Int.toNat_natCast, nat_next hi hl]
      cases okB (l.getD i default) <;> rfl) ⟨[], by
      unfold spec_l02Are_loop0_step
      simp only [DT.get, nat_not]⟩
    have hall := firstOf_all okB (fun _ => ()) default l
    have h1 : spec_l02Are_loop0_ends l 0 = true := h1
    have h2 : spec_l02Are_loop0 l 0 = _ := h2
    unfold spec_l02Are_need spec_l02Are spec_l02Are_tree
    simp only [DT.ok, DT.val, h1, h2, h16, Bool.true_and]
    rw [← hall]
    cases hf : firstOf (fun i => bif okB (l.getD i default) then none else some ()) l.length with
    | none => constructor <;> first | trivial | rfl
    | some a => constructor <;> first | trivial | rfl

theorem AreBodies_eq (l : List Body) (hl : l.length ≤ 2 ^ 62) : impl_AreBodies_need l = true ∧ impl_AreBodies l = okL l := by
  obtain ⟨h1, h2⟩ := scan_loop (α := Int) (β := Unit) (step := slices_IndexFunc___impl_Body_impl_Body__impl_AreBodies_1_loop0_step (l, ((l.length : Nat) : Int))) l.length (fun i => bif okB (l.getD i default) then none else some (i : Int)) () (fun i hi => by
    refine ⟨[], ?_⟩
    unfold slices_IndexFunc___impl_Body_impl_Body__impl_AreBodies_1_loop0_step
    simp only [DT.get, nat_dec hi, nat_in hi, (AreBodies_1_eq _).1, (AreBodies_1_eq _).2, Int.toNat_natCast, nat_next hi hl]
    cases okB (l.getD i default) <;> rfl) ⟨[], by
    unfold slices_IndexFunc___impl_Body_impl_Body__impl_AreBodies_1_loop0_step
    simp only [DT.get, nat_not]⟩
  have hall := firstOf_all okB (fun i => (i : Int)) default l
  have h1 : slices_IndexFunc___impl_Body_impl_Body__impl_AreBodies_1_loop0_ends (l, ((l.length : Nat) : Int)) 0 = true := h1
  have h2 : slices_IndexFunc___impl_Body_impl_Body__impl_AreBodies_1_loop0 (l, ((l.length : Nat) : Int)) 0 = _ := h2
  have key : slices_IndexFunc___impl_Body_impl_Body__impl_AreBodies_1_need l = true ∧ decide (slices_IndexFunc___impl_Body_impl_Body__impl_AreBodies_1 l ≥ 0) = !l.all okB := by
    unfold slices_IndexFunc___impl_Body_impl_Body__impl_AreBodies_1_need slices_IndexFunc___impl_Body_impl_Body__impl_AreBodies_1 slices_IndexFunc___impl_Body_impl_Body__impl_AreBodies_1_tree
    simp only [DT.ok, DT.val, h1, h2]
    rw [← hall]
    cases hf : firstOf (fun i => bif okB (l.getD i default) then none else some (i : Int)) l.length with
    | none => constructor <;> first | trivial | rfl
    | some a =>
      have ha : 0 ≤ a := by
        unfold firstOf at hf
        obtain ⟨i, _, hi⟩ := List.exists_of_findSome?_eq_some hf
        cases hq : okB (l.getD i default) <;> rw [hq] at hi
        · simp only [cond_false, Option.some.injEq] at hi; omega
        · cases hi
      simp only [isL, leftD]
      exact ⟨trivial, decide_eq_true ha⟩
  have key2 : slices_ContainsFunc___impl_Body_impl_Body__impl_AreBodies_1_need l = true ∧ slices_ContainsFunc___impl_Body_impl_Body__impl_AreBodies_1 l = !l.all okB := by
    unfold slices_ContainsFunc___impl_Body_impl_Body__impl_AreBodies_1_need slices_ContainsFunc___impl_Body_impl_Body__impl_AreBodies_1 slices_ContainsFunc___impl_Body_impl_Body__impl_AreBodies_1_tree
    simp only [DT.ok, DT.val, key.1, key.2]
    exact ⟨trivial, trivial⟩
  unfold impl_AreBodies_need impl_AreBodies impl_AreBodies_tree okL
  simp only [DT.ok, DT.val, key2.1, key2.2, Bool.not_not]
  cases decide (((l.length : Nat) : Int) ≤ 16) <;> constructor <;> first | trivial | rfl

/-- Bodies, or nothing. -/
theorem give_same (l : List Body) (hl : l.length ≤ 2 ^ 62) : impl_asBodies_need l = true ∧ spec_l02Give_need l = true ∧ impl_asBodies l = spec_l02Give l ∧ spec_l02Give l = bif okL l then .inr l else .inl () := by
  obtain ⟨a1, a2⟩ := AreBodies_eq l hl
  obtain ⟨b1, b2⟩ := l02Are_eq l hl
  unfold impl_asBodies_need spec_l02Give_need impl_asBodies spec_l02Give impl_asBodies_tree spec_l02Give_tree
  simp only [DT.ok, DT.val, a1, a2, b1, b2]
  cases okL l <;> refine ⟨?_, ?_, ?_, ?_⟩ <;> first | trivial | rfl

theorem len_pos (n : Nat) : decide (1 + 7 * (n : Int) < 0) = false := decide_eq_false (by omega)
theorem len_ne (n : Nat) : ((1 + 7 * (n : Int)) != 1 + 7 * (n : Int)) = false := by simp

/-- What a law does with a list of bodies: it is the same as itself, and its marks are held. -/
theorem marks (l : List Body) (hl : l.length ≤ 2 ^ 40) : laws_eqBodyS_need l l = true ∧ laws_eqBodyS l l = true ∧ laws_markBodyS_need l 1 = true ∧ (laws_markBodyS l 1).1 = 1 + 7 * (l.length : Int) ∧ laws_heldBodyS_need (laws_markBodyS l 1).2 1 = true ∧ laws_heldBodyS (laws_markBodyS l 1).2 1 = 1 + 7 * (l.length : Int) := by
  obtain ⟨e1, e2⟩ := eqBodyS_self l (by omega)
  obtain ⟨k1, k2, k3, k4⟩ := mark_all l hl
  obtain ⟨d1, d2⟩ := held_all (laws_markBodyS l 1).2 (by omega) (fun j hj => k4 j (by omega))
  rw [k3] at d2
  exact ⟨e1, e2, k1, k2, d1, d2⟩

/-- .. and with none. -/
theorem marks0 : laws_eqBodyS_need [] [] = true ∧ laws_eqBodyS [] [] = true ∧ laws_markBodyS_need [] 1 = true ∧ (laws_markBodyS [] 1).1 = 1 ∧ laws_heldBodyS_need [] 1 = true ∧ laws_heldBodyS [] 1 = 1 := by
  obtain ⟨e1, e2⟩ := eqBodyS_self [] (by decide)
  obtain ⟨k1, k2, k3, k4⟩ := mark_all [] (by decide)
  obtain ⟨d1, d2⟩ := held_all [] (by decide) (fun j hj => absurd hj (Nat.not_lt_zero j))
  exact ⟨e1, e2, k1, k2, d1, d2⟩

theorem one_pos : decide ((1 : Int) < 0) = false := rfl
theorem one_ne : ((1 : Int) != 1) = false := rfl


/-! ## Two bodies on a circle -/

/-- The bodies of a new desk. -/
def LB : List Body := [(⟨⟨3204448256, 0, 0⟩, ⟨0, 3204448256, 0⟩, 1056964608⟩ : Body), (⟨⟨1056964608, 0, 0⟩, ⟨0, 1056964608, 0⟩, 1056964608⟩ : Body)]

theorem LB_ok : okL LB = true := by decide +kernel
theorem c_sum : fadd .f32 1056964608 1056964608 = 1065353216 := by decide +kernel
theorem c_one : fmul .f32 1065353216 1065353216 = 1065353216 := by decide +kernel
theorem c_div : fdiv .f32 1065353216 1065353216 = 1065353216 := by decide +kernel
theorem c_half : fmul .f32 1065353216 1056964608 = 1056964608 := by decide +kernel
theorem c_hdiv : fdiv .f32 1056964608 1065353216 = 1056964608 := by decide +kernel
theorem c_neg : fneg .f32 1056964608 = 3204448256 := by decide +kernel
theorem c_mneg : fmul .f32 1065353216 3204448256 = 3204448256 := by decide +kernel
theorem c_root : spec_l01Sqrt_need 1065353216 = true ∧ spec_l01Sqrt 1065353216 = 1065353216 := by constructor <;> kernel_rfl
theorem c_root2 : impl_RootNumber_need 1065353216 = true ∧ impl_RootNumber 1065353216 = 1065353216 := by constructor <;> kernel_rfl
theorem c_least : spec_l02Least 1056964608 = true := by kernel_rfl
theorem c_above : spec_l02Above 1065353216 = true := by kernel_rfl
theorem c_mass : impl_aMass_need 1056964608 = true ∧ impl_aMass 1056964608 = true := by constructor <;> kernel_rfl
theorem c_length : impl_aLength_need 1065353216 = true ∧ impl_aLength 1065353216 = true := by constructor <;> kernel_rfl

theorem circle_spec : spec_CircleBodies_need 1056964608 1056964608 1065353216 = true ∧ spec_CircleBodies 1056964608 1056964608 1065353216 = .inr LB := by
  obtain ⟨_, g2, _, g4⟩ := give_same LB (by decide)
  rw [LB_ok] at g4
  simp only [cond_true] at g4
  have key : (spec_CircleBodies_tree 1056964608 1056964608 1065353216).get = some (.inr LB) := by
    unfold LB at g2 g4 ⊢
    unfold spec_CircleBodies_tree
    simp only [DT.get, c_sum, c_one, c_div, c_half, c_hdiv, c_neg, c_mneg, c_root.1, c_root.2, c_least, c_above, Bool.not_true, g2, g4, isL]
  exact DT.of_get key

theorem circle_impl : impl_CircleBodies_need 1056964608 1056964608 1065353216 = true ∧ impl_CircleBodies 1056964608 1056964608 1065353216 = .inr LB := by
  obtain ⟨g1, _, g3, g4⟩ := give_same LB (by decide)
  rw [LB_ok] at g4
  simp only [cond_true] at g4
  rw [g4] at g3
  have key : (impl_CircleBodies_tree 1056964608 1056964608 1065353216).get = some (.inr LB) := by
    unfold LB at g1 g3 ⊢
    unfold impl_CircleBodies_tree
    simp only [DT.get, c_sum, c_one, c_div, c_half, c_hdiv, c_neg, c_mneg, c_root2.1, c_root2.2, c_mass.1, c_mass.2, c_length.1, c_length.2, Bool.not_true, g1, g3, isL]
  exact DT.of_get key

theorem orbit_spec : spec_CircleOrbit 1065353216 = (⟨1065353216, 0, 0, 0, 0, 0⟩, true) := by
  unfold spec_CircleOrbit spec_CircleOrbit_tree
  simp only [DT.val, c_above, Bool.not_true]

theorem eqBall_self (b : Ball) : laws_eqBall_need b b = true ∧ laws_eqBall b b = true := by
  unfold laws_eqBall_need laws_eqBall laws_eqBall_tree
  simp only [DT.ok, DT.val, fconvOk_up, sameFloat_self, Bool.not_true]
  exact ⟨trivial, trivial⟩
theorem eqOrbit_self (o : Orbit) : laws_eqOrbit_need o o = true ∧ laws_eqOrbit o o = true := by
  unfold laws_eqOrbit_need laws_eqOrbit laws_eqOrbit_tree
  simp only [DT.ok, DT.val, fconvOk_up, sameFloat_self, Bool.not_true]
  exact ⟨trivial, trivial⟩
theorem sameC_self (x : Nat × Nat) : laws_sameComplex x x = true := by
  unfold laws_sameComplex laws_sameComplex_tree
  simp only [DT.val, sameFloat_self]
theorem eqShip_self (s : (Nat × Nat) × (Nat × Nat)) : laws_eqShip_need s s = true ∧ laws_eqShip s s = true := by
  unfold laws_eqShip_need laws_eqShip laws_eqShip_tree
  simp only [DT.ok, DT.val, fconvOk_up, sameC_self, Bool.not_true]
  exact ⟨trivial, trivial⟩

end Go.Proofs.Ytacelaaifaffpaa
