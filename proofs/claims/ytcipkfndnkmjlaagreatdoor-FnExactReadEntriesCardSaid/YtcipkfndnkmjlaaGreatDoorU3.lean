/- Plain law of what is read, part 3: vectors, numbers alone, bodies: the program's and the reference's; the law of ReadBodies. -/
import Derived.Test.YtcipkfndnkmjlaaGreatDoorU2
namespace Go.Proofs.YtcipkfndnkmjlaaGreatDoor
set_option linter.unusedVariables false
set_option linter.unusedSimpArgs false

theorem IsFinite_need (x : Nat) : impl_IsFinite_need x = true := by
  unfold impl_IsFinite_need impl_IsFinite_tree
  simp only [DT.ok, fconvOk_up]
theorem l01Finite_eq (x : Nat) : spec_l01Finite x = isNum .f32 x := finite_same .f32 x
theorem math_Abs_eq {x : Nat} (h : isNaN .f64 x = false) : math_Abs x = fabs x := by
  unfold math_Abs math_Abs_tree
  simp only [DT.val, h]
  rfl
theorem impl_finite_eq (x : Nat) : impl_finite x = isNum .f64 x := by
  unfold impl_finite impl_finite_tree
  have h1 : math_IsNaN x = isNaN .f64 x := fne_self .f64 x
  simp only [DT.val, h1]
  cases hn : isNaN .f64 x with
  | true =>
    rcases kinds .f64 x with ⟨s, m, p, hd, h1, h2⟩ | ⟨s, hd, h1, h2⟩ | ⟨s, t, hd, h1, h2⟩
    · rw [h2] at hn; cases hn
    · rw [h2] at hn; cases hn
    · rw [h1]; rfl
  | false =>
    have h2 : math_IsInf x 0 = fgt .f64 (math_Abs x) 9218868437227405311 := rfl
    rw [h2, math_Abs_eq hn, inf_abs hn]
    simp
theorem IsFinite_eq (x : Nat) : impl_IsFinite x = isNum .f32 x := by
  show impl_finite (fconv .f32 x .f64) = _
  rw [impl_finite_eq, isNum_up]

theorem areFinite_1_eq (i : Nat) : impl_areFinite_1_need i = true ∧ impl_areFinite_1 i = !isNum .f32 i := by
  unfold impl_areFinite_1_need impl_areFinite_1 impl_areFinite_1_tree
  simp only [DT.ok, DT.val, IsFinite_need, IsFinite_eq]
  exact ⟨trivial, trivial⟩

theorem areFinite_eq (l : List Nat) (hl : l.length ≤ 2 ^ 62) : impl_areFinite_need l = true ∧ impl_areFinite l = l.all (isNum .f32) := by
  obtain ⟨h1, h2⟩ := scan_loop (α := Int) (β := Unit) (step := slices_IndexFunc___float32_float32__impl_areFinite_1_loop0_step (l, ((l.length : Nat) : Int))) l.length (fun i => bif isNum .f32 (l.getD i default) then none else some (i : Int)) () (fun i hi => by
    refine ⟨[], ?_⟩
    unfold slices_IndexFunc___float32_float32__impl_areFinite_1_loop0_step
    simp only [DT.get, nat_dec hi, nat_in hi, (areFinite_1_eq _).1, (areFinite_1_eq _).2, Int.toNat_natCast, nat_next hi hl]
    cases isNum .f32 (l.getD i default) <;> rfl) ⟨[], by
    unfold slices_IndexFunc___float32_float32__impl_areFinite_1_loop0_step
    simp only [DT.get, nat_not]⟩
  have hall := firstOf_all (isNum .f32) (fun i => (i : Int)) default l
  have h1 : slices_IndexFunc___float32_float32__impl_areFinite_1_loop0_ends (l, ((l.length : Nat) : Int)) 0 = true := h1
  have h2 : slices_IndexFunc___float32_float32__impl_areFinite_1_loop0 (l, ((l.length : Nat) : Int)) 0 = _ := h2
  have key : slices_IndexFunc___float32_float32__impl_areFinite_1_need l = true ∧ decide (slices_IndexFunc___float32_float32__impl_areFinite_1 l ≥ 0) = !l.all (isNum .f32) := by
    unfold slices_IndexFunc___float32_float32__impl_areFinite_1_need slices_IndexFunc___float32_float32__impl_areFinite_1 slices_IndexFunc___float32_float32__impl_areFinite_1_tree
    simp only [DT.ok, DT.val, h1, h2]
    rw [← hall]
    cases hf : firstOf (fun i => bif isNum .f32 (l.getD i default) then none else some (i : Int)) l.length with
    | none => constructor <;> first | trivial | rfl
    | some a =>
      have ha : 0 ≤ a := by
        unfold firstOf at hf
        obtain ⟨i, _, hi⟩ := List.exists_of_findSome?_eq_some hf
        cases hq : isNum .f32 (l.getD i default) <;> rw [hq] at hi
        · simp only [cond_false, Option.some.injEq] at hi; omega
        · cases hi
      simp only [isL, leftD]
      exact ⟨trivial, decide_eq_true ha⟩
  have key2 : slices_ContainsFunc___float32_float32__impl_areFinite_1_need l = true ∧ slices_ContainsFunc___float32_float32__impl_areFinite_1 l = !l.all (isNum .f32) := by
    unfold slices_ContainsFunc___float32_float32__impl_areFinite_1_need slices_ContainsFunc___float32_float32__impl_areFinite_1 slices_ContainsFunc___float32_float32__impl_areFinite_1_tree
    simp only [DT.ok, DT.val, key.1, key.2]
    exact ⟨trivial, trivial⟩
  unfold impl_areFinite_need impl_areFinite impl_areFinite_tree
  simp only [DT.ok, DT.val, key2.1, key2.2, Bool.not_not]
  exact ⟨trivial, trivial⟩

theorem sameFloat_self (x : Nat) : laws_sameFloat x x = true := by
  unfold laws_sameFloat laws_sameFloat_tree
  cases h1 : fne .f64 x x with
  | true => simp only [DT.val, h1]
  | false =>
    have h2 : feq .f64 x x = true := by
      have := fne_feq .f64 x x
      rw [h1] at this
      simpa using this.symm
    cases h3 : feq .f64 x 0 <;> simp only [DT.val, h1, h3, h2, beq_self_eq_true]

theorem eqVector_self (v : Vec) : laws_eqVector_need v v = true ∧ laws_eqVector v v = true := by
  unfold laws_eqVector_need laws_eqVector laws_eqVector_tree
  simp only [DT.ok, DT.val, fconvOk_up, sameFloat_self, Bool.not_true]
  exact ⟨trivial, trivial⟩

theorem eqBody_self (b : Body) : laws_eqBody_need b b = true ∧ laws_eqBody b b = true := by
  unfold laws_eqBody_need laws_eqBody laws_eqBody_tree
  simp only [DT.ok, DT.val, fconvOk_up, sameFloat_self, (eqVector_self _).1, (eqVector_self _).2, Bool.not_true]
  exact ⟨trivial, trivial⟩

theorem eqBodyS_self (l : List Body) (hl : l.length ≤ 2 ^ 62) : laws_eqBodyS_need l l = true ∧ laws_eqBodyS l l = true := by
  obtain ⟨h1, h2⟩ := scan_loop (α := Unit) (β := Unit) (step := laws_eqBodyS_loop0_step (l, l)) l.length (fun _ => none) () (fun i hi => ⟨[], by
    unfold laws_eqBodyS_loop0_step
    simp only [DT.get, nat_dec hi, nat_ge, Bool.and_self, (eqBody_self _).1, (eqBody_self _).2, Bool.not_true, nat_next hi hl]⟩) ⟨[], by
    unfold laws_eqBodyS_loop0_step
    simp only [DT.get, nat_not]⟩
  have hf : firstOf (fun _ => (none : Option Unit)) l.length = none := by
    unfold firstOf
    rw [List.findSome?_eq_none_iff]
    exact fun _ _ => rfl
  rw [hf] at h2
  have h1 : laws_eqBodyS_loop0_ends (l, l) 0 = true := h1
  have h2 : laws_eqBodyS_loop0 (l, l) 0 = .inr () := h2
  have hne : (((l.length : Nat) : Int) != ((l.length : Nat) : Int)) = false := by simp
  unfold laws_eqBodyS_need laws_eqBodyS laws_eqBodyS_tree
  simp only [DT.ok, DT.val, hne, h1, h2, isL]
  exact ⟨trivial, trivial⟩

/-! ## Marks -/

/-- What a body holds that is marked from k on. -/
def markB (k : Int) : Body := ⟨⟨fofInt .f32 k, fofInt .f32 (k + 1), fofInt .f32 (k + 2)⟩, ⟨fofInt .f32 (k + 3), fofInt .f32 (k + 4), fofInt .f32 (k + 5)⟩, fofInt .f32 (k + 6)⟩

theorem getD_set {α : Type} {l : List α} {i : Nat} {x d : α} (h : i < l.length) : List.getD (List.set l i x) i d = x := by
  rw [List.getD_eq_getElem?_getD, List.getElem?_set_self h, Option.getD_some]
theorem getD_set_ne {α : Type} {l : List α} {i j : Nat} {x d : α} (h : i ≠ j) : List.getD (List.set l i x) j d = List.getD l j d := by
  rw [List.getD_eq_getElem?_getD, List.getD_eq_getElem?_getD, List.getElem?_set_ne h]

theorem mark_step (l : List Body) (k : Int) (i : Nat) (hi : i < l.length) (hl : l.length ≤ 2 ^ 40) (hk : 0 ≤ k) (hk2 : k ≤ 2 ^ 50) :
    (laws_markBodyS_loop0_step () (k, (i : Int), l)).get = some (.inl (k + 7, ((i + 1 : Nat) : Int), List.set l i (markB k)), [0]) := by
  have hd : decide (((i : Nat) : Int) < ((l.length : Nat) : Int)) = true := nat_dec hi
  have hin : (decide ((0 : Int) ≤ ((i : Nat) : Int)) && decide (((i : Nat) : Int) < ((l.length : Nat) : Int))) = true := nat_in hi
  have hin2 : decide (Int.toNat ((i : Nat) : Int) < l.length) = true := decide_eq_true (by omega)
  have hlen : ∀ x : Body, (List.set l i x).length = l.length := fun x => List.length_set ..
  have ht : Int.toNat ((i : Nat) : Int) = i := Int.toNat_natCast i
  have h00 : decide ((0 : Int) ≤ ((i : Nat) : Int)) = true := decide_eq_true (by omega)
  have w1 : IntKind.wrap .i64 (k + 1) = k + 1 := wrap_small (by omega) (by omega)
  have w2 : IntKind.wrap .i64 (k + 1 + 1) = k + 2 := by rw [wrap_small (by omega) (by omega)]; omega
  have w3 : IntKind.wrap .i64 (k + 2 + 1) = k + 3 := by rw [wrap_small (by omega) (by omega)]; omega
  have w4 : IntKind.wrap .i64 (k + 3 + 1) = k + 4 := by rw [wrap_small (by omega) (by omega)]; omega
  have w5 : IntKind.wrap .i64 (k + 4 + 1) = k + 5 := by rw [wrap_small (by omega) (by omega)]; omega
  have w6 : IntKind.wrap .i64 (k + 5 + 1) = k + 6 := by rw [wrap_small (by omega) (by omega)]; omega
  have w7 : IntKind.wrap .i64 (k + 6 + 1) = k + 7 := by rw [wrap_small (by omega) (by omega)]; omega
  have wi : IntKind.wrap .i64 (((i : Nat) : Int) + 1) = ((i + 1 : Nat) : Int) := nat_next hi (by omega)
  unfold laws_markBodyS_loop0_step
  simp only [DT.get, hd, h00, Bool.and_self, hin2, ht, hlen, List.length_set, getD_set hi, List.set_set, w1, w2, w3, w4, w5, w6, w7, wi, markB, decide_eq_true hi]

theorem mark_all (l : List Body) (hl : l.length ≤ 2 ^ 40) : laws_markBodyS_need l 1 = true ∧ (laws_markBodyS l 1).1 = 1 + 7 * (l.length : Int) ∧ (laws_markBodyS l 1).2.length = l.length ∧ ∀ j, j < l.length → (laws_markBodyS l 1).2.getD j default = markB (1 + 7 * (j : Int)) := by
  obtain ⟨h1, h2⟩ := loop_post (step := laws_markBodyS_loop0_step ()) (fun s => ∃ i : Nat, s.2.1 = (i : Int) ∧ i ≤ l.length ∧ s.1 = 1 + 7 * (i : Int) ∧ s.2.2.length = l.length ∧ ∀ j, j < i → s.2.2.getD j default = markB (1 + 7 * (j : Int))) (fun s => l.length - s.2.1.toNat)
    (fun r => r.1 = 1 + 7 * (l.length : Int) ∧ r.2.length = l.length ∧ ∀ j, j < l.length → r.2.getD j default = markB (1 + 7 * (j : Int))) (by
    rintro ⟨k, s, m⟩ ⟨i, hs, hi, hk, hm, hj⟩
    simp only at hs hk hm hj
    subst hs hk
    rcases Nat.lt_or_ge i l.length with hlt | hge
    · refine ⟨_, _, mark_step m _ i (by omega) (by omega) (by omega) (by omega), ⟨i + 1, rfl, hlt, ?_, ?_, fun j hj' => ?_⟩, ?_⟩
      · show 1 + 7 * (i : Int) + 7 = _
        omega
      · rw [List.length_set]; exact hm
      · rcases Nat.lt_or_ge j i with h | h
        · rw [getD_set_ne (by omega)]; exact hj j h
        · rw [show j = i from by omega, getD_set (by omega)]
      · show l.length - ((i + 1 : Nat) : Int).toNat < l.length - ((i : Nat) : Int).toNat
        rw [Int.toNat_natCast, Int.toNat_natCast]
        omega
    · have he : i = l.length := Nat.le_antisymm hi hge
      refine ⟨.inr (1 + 7 * (i : Int), m), [0], ?_, ?_, hm, fun j hj' => hj j (by omega)⟩
      · unfold laws_markBodyS_loop0_step
        simp only [DT.get, hm, he, nat_not]
      · rw [he]) (1, 0, l) ⟨0, rfl, Nat.zero_le _, rfl, rfl, fun j hj => absurd hj (Nat.not_lt_zero j)⟩
  have h1 : laws_markBodyS_loop0_ends () (1, 0, l) = true := h1
  have hv : laws_markBodyS l 1 = ((laws_markBodyS_loop0 () (1, 0, l)).1, (laws_markBodyS_loop0 () (1, 0, l)).2) := rfl
  refine ⟨?_, ?_⟩
  · unfold laws_markBodyS_need laws_markBodyS_tree
    simp only [DT.ok, h1]
  · rw [hv]
    exact h2

theorem fne_mark {n : Int} (h0 : 0 ≤ n) (h : n ≤ 2 ^ 51) : fne .f32 (fofInt .f32 n) (fofInt .f32 n) = false := by
  rw [fne_self]
  exact fofInt_num (by omega) .f32

theorem held_all (l : List Body) (hl : l.length ≤ 2 ^ 40) (h : ∀ j, j < l.length → l.getD j default = markB (1 + 7 * (j : Int))) : laws_heldBodyS_need l 1 = true ∧ laws_heldBodyS l 1 = 1 + 7 * (l.length : Int) := by
  obtain ⟨h1, h2⟩ := loop_post (step := laws_heldBodyS_loop0_step l) (fun s => ∃ i : Nat, s.2 = (i : Int) ∧ i ≤ l.length ∧ s.1 = 1 + 7 * (i : Int)) (fun s => l.length - s.2.toNat)
    (fun r => r = .inr (1 + 7 * (l.length : Int))) (by
    rintro ⟨k, s⟩ ⟨i, hs, hi, hk⟩
    simp only at hs hk
    subst hs
    rcases Nat.lt_or_ge i l.length with hlt | hge
    · have hk0 : 0 ≤ k := by omega
      have hk1 : k ≤ 2 ^ 50 := by omega
      have hd := nat_dec hlt
      have hin := nat_in hlt
      have ht : Int.toNat ((i : Nat) : Int) = i := Int.toNat_natCast i
      have h00 : decide ((0 : Int) ≤ ((i : Nat) : Int)) = true := decide_eq_true (by omega)
      have w1 : IntKind.wrap .i64 (k + 1) = k + 1 := wrap_small (by omega) (by omega)
      have w2 : IntKind.wrap .i64 (k + 1 + 1) = k + 2 := by rw [wrap_small (by omega) (by omega)]; omega
      have w3 : IntKind.wrap .i64 (k + 2 + 1) = k + 3 := by rw [wrap_small (by omega) (by omega)]; omega
      have w4 : IntKind.wrap .i64 (k + 3 + 1) = k + 4 := by rw [wrap_small (by omega) (by omega)]; omega
      have w5 : IntKind.wrap .i64 (k + 4 + 1) = k + 5 := by rw [wrap_small (by omega) (by omega)]; omega
      have w6 : IntKind.wrap .i64 (k + 5 + 1) = k + 6 := by rw [wrap_small (by omega) (by omega)]; omega
      have w7 : IntKind.wrap .i64 (k + 6 + 1) = k + 7 := by rw [wrap_small (by omega) (by omega)]; omega
      have wi : IntKind.wrap .i64 (((i : Nat) : Int) + 1) = ((i + 1 : Nat) : Int) := nat_next hlt (by omega)
      have hg : l.getD i default = markB k := by rw [h i hlt, hk]
      have f0 := fne_mark (n := k) (by omega) (by omega)
      have f1 := fne_mark (n := k + 1) (by omega) (by omega)
      have f2 := fne_mark (n := k + 2) (by omega) (by omega)
      have f3 := fne_mark (n := k + 3) (by omega) (by omega)
      have f4 := fne_mark (n := k + 4) (by omega) (by omega)
      have f5 := fne_mark (n := k + 5) (by omega) (by omega)
      have f6 := fne_mark (n := k + 6) (by omega) (by omega)
      refine ⟨.inl (k + 7, ((i + 1 : Nat) : Int)), [], ?_, ⟨i + 1, rfl, hlt, ?_⟩, ?_⟩
      · unfold laws_heldBodyS_loop0_step
        simp only [DT.get, hd, h00, Bool.and_self, ht, hg, markB, w1, w2, w3, w4, w5, w6, w7, wi, f0, f1, f2, f3, f4, f5, f6]
      · show k + 7 = _
        omega
      · show l.length - ((i + 1 : Nat) : Int).toNat < l.length - ((i : Nat) : Int).toNat
        rw [Int.toNat_natCast, Int.toNat_natCast]
        omega
    · have he : i = l.length := Nat.le_antisymm hi hge
      refine ⟨.inr (.inr k), [], ?_, ?_⟩
      · unfold laws_heldBodyS_loop0_step
        simp only [DT.get, he, nat_not]
      · rw [hk, he]) (1, 0) ⟨0, rfl, Nat.zero_le _, rfl⟩
  have h1 : laws_heldBodyS_loop0_ends l (1, 0) = true := h1
  have h2 : laws_heldBodyS_loop0 l (1, 0) = .inr (1 + 7 * (l.length : Int)) := h2
  unfold laws_heldBodyS_need laws_heldBodyS laws_heldBodyS_tree
  simp only [DT.ok, DT.val, h1, h2, isL, rightD]
  exact ⟨trivial, trivial⟩

/-! ## That lists are bodies -/

def finV (v : Vec) : Bool := isNum .f32 v.X && isNum .f32 v.Y && isNum .f32 v.Z
def okB (b : Body) : Bool := finV b.At && finV b.Speed && (isNum .f32 b.Mass && fge .f32 b.Mass 0)

theorem l01VFinite_eq (v : Vec) : spec_l01VFinite v = finV v := by
  unfold spec_l01VFinite spec_l01VFinite_tree finV
  simp only [l01Finite_eq]
  cases isNum .f32 v.X <;> cases isNum .f32 v.Y <;> cases isNum .f32 v.Z <;> rfl
theorem l02Least_eq (x : Nat) : spec_l02Least x = (isNum .f32 x && fge .f32 x 0) := by
  unfold spec_l02Least spec_l02Least_tree
  simp only [l01Finite_eq]
  cases isNum .f32 x <;> rfl
theorem l02Body_eq (b : Body) : spec_l02Body b = okB b := by
  unfold spec_l02Body spec_l02Body_tree okB
  simp only [l01VFinite_eq, l02Least_eq]
  cases finV b.At <;> cases finV b.Speed <;> rfl

theorem isFiniteVector_eq (v : Vec) : impl_isFiniteVector_need v = true ∧ impl_isFiniteVector v = finV v := by
  have h := areFinite_eq [v.X, v.Y, v.Z] (by show 3 ≤ 2 ^ 62; decide)
  have ha : [v.X, v.Y, v.Z].all (isNum .f32) = finV v := by
    unfold finV
    simp only [List.all_cons, List.all_nil, Bool.and_true, Bool.and_assoc]
  have e : impl_Vector_numbers (⟨v.X, v.Y, v.Z⟩ : Vec) = [v.X, v.Y, v.Z] := rfl
  unfold impl_isFiniteVector_need impl_isFiniteVector impl_isFiniteVector_tree
  simp only [DT.ok, DT.val, e, h.1, h.2, ha]
  exact ⟨trivial, trivial⟩

theorem flt_fge {x : Nat} (h : isNum .f32 x = true) : flt .f32 x 0 = !fge .f32 x 0 := by
  have h0 : isNum .f32 0 = true := by decide +kernel
  rw [flt_num h h0, fge_num h h0, ← decide_not, decide_eq_decide]
  omega

theorem AreBodies_1_eq (b : Body) : impl_AreBodies_1_need b = true ∧ impl_AreBodies_1 b = !okB b := by
  unfold impl_AreBodies_1_need impl_AreBodies_1 impl_AreBodies_1_tree okB
  simp only [DT.ok, DT.val, (isFiniteVector_eq _).1, (isFiniteVector_eq _).2, IsFinite_need, IsFinite_eq]
  cases finV b.At <;> cases finV b.Speed <;> first
    | exact ⟨rfl, rfl⟩
    | (cases h : isNum .f32 b.Mass
       · exact ⟨rfl, rfl⟩
       · simp only [Bool.not_true, Bool.true_and, flt_fge h]
         exact ⟨trivial, trivial⟩)

/-- Bodies. -/
def okL (l : List Body) : Bool := decide (((l.length : Nat) : Int) ≤ 16) && l.all okB

theorem l02Are_eq (l : List Body) (hl : l.length ≤ 2 ^ 62) : spec_l02Are_need l = true ∧ spec_l02Are l = okL l := by
  unfold okL
  cases h16 : decide (((l.length : Nat) : Int) ≤ 16) with
  | false =>
    have h16' := of_decide_eq_false h16
    obtain ⟨h1, h2⟩ := loop_post (step := spec_l02Are_loop0_step l) (fun s => s = 0) (fun _ => 0) (fun r => r = .inr ()) (by
      rintro s rfl
      have hd : decide ((0 : Int) < ((l.length : Nat) : Int)) = true := decide_eq_true (by omega)
      refine ⟨.inr (.inr ()), [], ?_, rfl⟩
      unfold spec_l02Are_loop0_step
      simp only [DT.get, hd, h16]) 0 rfl
    have h1 : spec_l02Are_loop0_ends l 0 = true := h1
    have h2 : spec_l02Are_loop0 l 0 = .inr () := h2
    unfold spec_l02Are_need spec_l02Are spec_l02Are_tree
    simp only [DT.ok, DT.val, h1, h2, isL, h16, Bool.false_and]
    exact ⟨trivial, trivial⟩
  | true =>
    obtain ⟨h1, h2⟩ := scan_loop (α := Unit) (β := Unit) (step := spec_l02Are_loop0_step l) l.length (fun i => bif okB (l.getD i default) then none else some ()) () (fun i hi => by
      refine ⟨[], ?_⟩
      unfold spec_l02Are_loop0_step
      simp only [DT.get, nat_dec hi, nat_in hi, h16, l02Body_eq, Int.toNat_natCast, nat_next hi hl]
      cases okB (l.getD i default) <;> rfl) ⟨[], by
      unfold spec_l02Are_loop0_step
      simp only [DT.get, nat_not]⟩
    have hall := firstOf_all okB (fun _ => ()) default l
    have h1 : spec_l02Are_loop0_ends l 0 = true := h1
    have h2 : spec_l02Are_loop0 l 0 = _ := h2
    unfold spec_l02Are_need spec_l02Are spec_l02Are_tree
    simp only [DT.ok, DT.val, h1, h2, h16, Bool.true_and]
    rw [← hall]
    cases hf : firstOf (fun i => bif okB (l.getD i default) then none else some ()) l.length with
    | none => constructor <;> first | trivial | rfl
    | some a => constructor <;> first | trivial | rfl

theorem AreBodies_eq (l : List Body) (hl : l.length ≤ 2 ^ 62) : impl_AreBodies_need l = true ∧ impl_AreBodies l = okL l := by
  obtain ⟨h1, h2⟩ := scan_loop (α := Int) (β := Unit) (step := slices_IndexFunc___impl_Body_impl_Body__impl_AreBodies_1_loop0_step (l, ((l.length : Nat) : Int))) l.length (fun i => bif okB (l.getD i default) then none else some (i : Int)) () (fun i hi => by
    refine ⟨[], ?_⟩
    unfold slices_IndexFunc___impl_Body_impl_Body__impl_AreBodies_1_loop0_step
    simp only [DT.get, nat_dec hi, nat_in hi, (AreBodies_1_eq _).1, (AreBodies_1_eq _).2, Int.toNat_natCast, nat_next hi hl]
    cases okB (l.getD i default) <;> rfl) ⟨[], by
    unfold slices_IndexFunc___impl_Body_impl_Body__impl_AreBodies_1_loop0_step
    simp only [DT.get, nat_not]⟩
  have hall := firstOf_all okB (fun i => (i : Int)) default l
  have h1 : slices_IndexFunc___impl_Body_impl_Body__impl_AreBodies_1_loop0_ends (l, ((l.length : Nat) : Int)) 0 = true := h1
  have h2 : slices_IndexFunc___impl_Body_impl_Body__impl_AreBodies_1_loop0 (l, ((l.length : Nat) : Int)) 0 = _ := h2
  have key : slices_IndexFunc___impl_Body_impl_Body__impl_AreBodies_1_need l = true ∧ decide (slices_IndexFunc___impl_Body_impl_Body__impl_AreBodies_1 l ≥ 0) = !l.all okB := by
    unfold slices_IndexFunc___impl_Body_impl_Body__impl_AreBodies_1_need slices_IndexFunc___impl_Body_impl_Body__impl_AreBodies_1 slices_IndexFunc___impl_Body_impl_Body__impl_AreBodies_1_tree
    simp only [DT.ok, DT.val, h1, h2]
    rw [← hall]
    cases hf : firstOf (fun i => bif okB (l.getD i default) then none else some (i : Int)) l.length with
    | none => constructor <;> first | trivial | rfl
    | some a =>
      have ha : 0 ≤ a := by
        unfold firstOf at hf
        obtain ⟨i, _, hi⟩ := List.exists_of_findSome?_eq_some hf
        cases hq : okB (l.getD i default) <;> rw [hq] at hi
        · simp only [cond_false, Option.some.injEq] at hi; omega
        · cases hi
      simp only [isL, leftD]
      exact ⟨trivial, decide_eq_true ha⟩
  have key2 : slices_ContainsFunc___impl_Body_impl_Body__impl_AreBodies_1_need l = true ∧ slices_ContainsFunc___impl_Body_impl_Body__impl_AreBodies_1 l = !l.all okB := by
    unfold slices_ContainsFunc___impl_Body_impl_Body__impl_AreBodies_1_need slices_ContainsFunc___impl_Body_impl_Body__impl_AreBodies_1 slices_ContainsFunc___impl_Body_impl_Body__impl_AreBodies_1_tree
    simp only [DT.ok, DT.val, key.1, key.2]
    exact ⟨trivial, trivial⟩
  unfold impl_AreBodies_need impl_AreBodies impl_AreBodies_tree okL
  simp only [DT.ok, DT.val, key2.1, key2.2, Bool.not_not]
  cases decide (((l.length : Nat) : Int) ≤ 16) <;> constructor <;> first | trivial | rfl

/-- Bodies, or nothing. -/
theorem give_same (l : List Body) (hl : l.length ≤ 2 ^ 62) : impl_asBodies_need l = true ∧ spec_l02Give_need l = true ∧ impl_asBodies l = spec_l02Give l ∧ spec_l02Give l = bif okL l then .inr l else .inl () := by
  obtain ⟨a1, a2⟩ := AreBodies_eq l hl
  obtain ⟨b1, b2⟩ := l02Are_eq l hl
  unfold impl_asBodies_need spec_l02Give_need impl_asBodies spec_l02Give impl_asBodies_tree spec_l02Give_tree
  simp only [DT.ok, DT.val, a1, a2, b1, b2]
  cases okL l <;> refine ⟨?_, ?_, ?_, ?_⟩ <;> first | trivial | rfl

theorem len_pos (n : Nat) : decide (1 + 7 * (n : Int) < 0) = false := decide_eq_false (by omega)
theorem len_ne (n : Nat) : ((1 + 7 * (n : Int)) != 1 + 7 * (n : Int)) = false := by simp

/-- What a law does with a list of bodies: it is the same as itself, and its marks are held. -/
theorem marks (l : List Body) (hl : l.length ≤ 2 ^ 40) : laws_eqBodyS_need l l = true ∧ laws_eqBodyS l l = true ∧ laws_markBodyS_need l 1 = true ∧ (laws_markBodyS l 1).1 = 1 + 7 * (l.length : Int) ∧ laws_heldBodyS_need (laws_markBodyS l 1).2 1 = true ∧ laws_heldBodyS (laws_markBodyS l 1).2 1 = 1 + 7 * (l.length : Int) := by
  obtain ⟨e1, e2⟩ := eqBodyS_self l (by omega)
  obtain ⟨k1, k2, k3, k4⟩ := mark_all l hl
  obtain ⟨d1, d2⟩ := held_all (laws_markBodyS l 1).2 (by omega) (fun j hj => k4 j (by omega))
  rw [k3] at d2
  exact ⟨e1, e2, k1, k2, d1, d2⟩

/-- .. and with none. -/
theorem marks0 : laws_eqBodyS_need [] [] = true ∧ laws_eqBodyS [] [] = true ∧ laws_markBodyS_need [] 1 = true ∧ (laws_markBodyS [] 1).1 = 1 ∧ laws_heldBodyS_need [] 1 = true ∧ laws_heldBodyS [] 1 = 1 := by
  obtain ⟨e1, e2⟩ := eqBodyS_self [] (by decide)
  obtain ⟨k1, k2, k3, k4⟩ := mark_all [] (by decide)
  obtain ⟨d1, d2⟩ := held_all [] (by decide) (fun j hj => absurd hj (Nat.not_lt_zero j))
  exact ⟨e1, e2, k1, k2, d1, d2⟩

theorem one_pos : decide ((1 : Int) < 0) = false := rfl
theorem one_ne : ((1 : Int) != 1) = false := rfl


/-! ## What is read of a text -/

theorem bne_len (n k : Nat) : (((n : Nat) : Int) != ((k : Nat) : Int)) = !decide (n = k) := by
  cases h : decide (n = k) with
  | true => rw [of_decide_eq_true h]; simp
  | false =>
    have := of_decide_eq_false h
    show (_ != _) = true
    rw [bne_iff_ne]; omega

def vecR (a : List UInt8) : Vec × Bool := match numsR a with
  | none => (⟨0, 0, 0⟩, false)
  | some xs => match decide (xs.length = 3) with
    | false => (⟨0, 0, 0⟩, false)
    | true => (⟨xs.getD 0 default, xs.getD 1 default, xs.getD 2 default⟩, true)
def oneR (a : List UInt8) : Nat × Bool := match numsR a with
  | none => (0, false)
  | some xs => match decide (xs.length = 1) with
    | false => (0, false)
    | true => (xs.getD 0 default, true)

theorem in_of {n k : Nat} (h : k < n) : decide (((k : Nat) : Int) < ((n : Nat) : Int)) = true := decide_eq_true (by omega)

theorem vec_impl (a : List UInt8) (ha : a.length ≤ 2 ^ 30) : impl_ReadVector_need a = true ∧ impl_ReadVector a = vecR a := by
  obtain ⟨h1, h2⟩ := nums_impl a ha
  have key : (impl_ReadVector_tree a).get = some (vecR a) := by
    unfold impl_ReadVector_tree vecR
    unfold outR at h2
    cases hr : numsR a with
    | none => rw [hr] at h2; simp only at h2; simp only [DT.get, h1, h2, isL]
    | some xs =>
      rw [hr] at h2
      simp only at h2
      have hb : (((List.length xs : Nat) : Int) != 3) = !decide (xs.length = 3) := bne_len _ 3
      cases hd : decide (xs.length = 3) with
      | false => rw [hd] at hb; simp only [DT.get, h1, h2, isL, leftD, hb, hd, Bool.not_false]
      | true =>
        rw [hd] at hb
        have hl := of_decide_eq_true hd
        have i0 : decide ((0 : Int) < ((List.length xs : Nat) : Int)) = true := in_of (k := 0) (by omega)
        have i1 : decide ((1 : Int) < ((List.length xs : Nat) : Int)) = true := in_of (k := 1) (by omega)
        have i2 : decide ((2 : Int) < ((List.length xs : Nat) : Int)) = true := in_of (k := 2) (by omega)
        have j0 : decide (0 < List.length xs) = true := decide_eq_true (by omega)
        have j1 : decide (1 < List.length xs) = true := decide_eq_true (by omega)
        have j2 : decide (2 < List.length xs) = true := decide_eq_true (by omega)
        have k0 : decide (0 ≤ 0) = true := rfl
        have k1 : decide (0 ≤ 1) = true := rfl
        have k2 : decide (0 ≤ 2) = true := rfl
        simp only [DT.get, h1, h2, isL, leftD, hb, hd, Bool.not_true, i0, i1, i2, j0, j1, j2, k0, k1, k2, Bool.and_self]
  exact DT.of_get key

theorem vec_spec (a : List UInt8) (ha : a.length ≤ 2 ^ 30) : spec_l01VRead_need a = true ∧ spec_l01VRead a = vecR a := by
  obtain ⟨h1, h2⟩ := nums_spec a ha
  have key : (spec_l01VRead_tree a).get = some (vecR a) := by
    unfold spec_l01VRead_tree vecR
    unfold outR at h2
    cases hr : numsR a with
    | none => rw [hr] at h2; simp only at h2; simp only [DT.get, h1, h2, isL]
    | some xs =>
      rw [hr] at h2
      simp only at h2
      have hb : (((List.length xs : Nat) : Int) != 3) = !decide (xs.length = 3) := bne_len _ 3
      cases hd : decide (xs.length = 3) with
      | false => rw [hd] at hb; simp only [DT.get, h1, h2, isL, leftD, hb, hd, Bool.not_false]
      | true =>
        rw [hd] at hb
        have hl := of_decide_eq_true hd
        have i0 : decide ((0 : Int) < ((List.length xs : Nat) : Int)) = true := in_of (k := 0) (by omega)
        have i1 : decide ((1 : Int) < ((List.length xs : Nat) : Int)) = true := in_of (k := 1) (by omega)
        have i2 : decide ((2 : Int) < ((List.length xs : Nat) : Int)) = true := in_of (k := 2) (by omega)
        have j0 : decide (0 < List.length xs) = true := decide_eq_true (by omega)
        have j1 : decide (1 < List.length xs) = true := decide_eq_true (by omega)
        have j2 : decide (2 < List.length xs) = true := decide_eq_true (by omega)
        have k0 : decide (0 ≤ 0) = true := rfl
        have k1 : decide (0 ≤ 1) = true := rfl
        have k2 : decide (0 ≤ 2) = true := rfl
        simp only [DT.get, h1, h2, isL, leftD, hb, hd, Bool.not_true, i0, i1, i2, j0, j1, j2, k0, k1, k2, Bool.and_self]
  exact DT.of_get key

theorem one_impl (a : List UInt8) (ha : a.length ≤ 2 ^ 30) : impl_readOne_need a = true ∧ impl_readOne a = oneR a := by
  obtain ⟨h1, h2⟩ := nums_impl a ha
  have key : (impl_readOne_tree a).get = some (oneR a) := by
    unfold impl_readOne_tree oneR
    unfold outR at h2
    cases hr : numsR a with
    | none => rw [hr] at h2; simp only at h2; simp only [DT.get, h1, h2, isL]
    | some xs =>
      rw [hr] at h2
      simp only at h2
      have hb : (((List.length xs : Nat) : Int) != 1) = !decide (xs.length = 1) := bne_len _ 1
      cases hd : decide (xs.length = 1) with
      | false => rw [hd] at hb; simp only [DT.get, h1, h2, isL, leftD, hb, hd, Bool.not_false]
      | true =>
        rw [hd] at hb
        have hl := of_decide_eq_true hd
        have i0 : decide ((0 : Int) < ((List.length xs : Nat) : Int)) = true := in_of (k := 0) (by omega)
        have j0 : decide (0 < List.length xs) = true := decide_eq_true (by omega)
        have k0 : decide (0 ≤ 0) = true := rfl
        simp only [DT.get, h1, h2, isL, leftD, hb, hd, Bool.not_true, i0, j0, k0, Bool.and_self]
  exact DT.of_get key

theorem one_spec (a : List UInt8) (ha : a.length ≤ 2 ^ 30) : spec_l08Number_need a = true ∧ spec_l08Number a = oneR a := by
  obtain ⟨h1, h2⟩ := nums_spec a ha
  have key : (spec_l08Number_tree a).get = some (oneR a) := by
    unfold spec_l08Number_tree oneR
    unfold outR at h2
    cases hr : numsR a with
    | none => rw [hr] at h2; simp only at h2; simp only [DT.get, h1, h2, isL]
    | some xs =>
      rw [hr] at h2
      simp only at h2
      have hb : (((List.length xs : Nat) : Int) != 1) = !decide (xs.length = 1) := bne_len _ 1
      cases hd : decide (xs.length = 1) with
      | false => rw [hd] at hb; simp only [DT.get, h1, h2, isL, leftD, hb, hd, Bool.not_false]
      | true =>
        rw [hd] at hb
        have hl := of_decide_eq_true hd
        have i0 : decide ((0 : Int) < ((List.length xs : Nat) : Int)) = true := in_of (k := 0) (by omega)
        have j0 : decide (0 < List.length xs) = true := decide_eq_true (by omega)
        have k0 : decide (0 ≤ 0) = true := rfl
        simp only [DT.get, h1, h2, isL, leftD, hb, hd, Bool.not_true, i0, j0, k0, Bool.and_self]
  exact DT.of_get key

/-! ## Lists of parts -/

def readG {α : Type} (f : List UInt8 → Option α) : List (List UInt8) → Option (List α)
  | [] => some []
  | w :: r => match f w with
    | none => none
    | some x => (readG f r).map (x :: ·)
theorem readG_drop {α : Type} (f : List UInt8 → Option α) {ws : List (List UInt8)} {i : Nat} (h : i < ws.length) : readG f (ws.drop i) = match f (ws.getD i default) with
    | none => none
    | some x => (readG f (ws.drop (i + 1))).map (x :: ·) := by
  rw [List.drop_eq_getElem_cons h, List.getD_eq_getElem?_getD, List.getElem?_eq_getElem h]
  rfl
theorem map_appG {α : Type} {o : Option (List α)} {xs : List α} {x : α} : (o.map (x :: ·)).map (xs ++ ·) = o.map ((xs ++ [x]) ++ ·) := by
  cases o <;> simp
theorem readG_len {α : Type} (f : List UInt8 → Option α) : ∀ {ws : List (List UInt8)} {xs : List α}, readG f ws = some xs → xs.length = ws.length
  | [], xs, h => by simp only [readG, Option.some.injEq] at h; subst h; rfl
  | w :: r, xs, h => by
    unfold readG at h
    cases hw : f w with
    | none => rw [hw] at h; cases h
    | some x =>
      rw [hw] at h
      simp only at h
      cases hr : readG f r with
      | none => rw [hr] at h; cases h
      | some ys =>
        rw [hr] at h
        simp only [Option.map_some, Option.some.injEq] at h
        subst h
        simp [readG_len f hr]
def outG {α : Type} (f : List UInt8 → Option α) (ws : List (List UInt8)) : Unit ⊕ List α := match readG f ws with
  | none => .inl ()
  | some xs => .inr xs

/-- A body of a text. -/
def bodyR (t : List UInt8) : Option Body := match decide ((C58.cuts t).length = 3) with
  | false => none
  | true => match (vecR ((C58.cuts t).getD 0 default)).2 && ((vecR ((C58.cuts t).getD 1 default)).2 && (oneR ((C58.cuts t).getD 2 default)).2) with
    | false => none
    | true => some ⟨(vecR ((C58.cuts t).getD 0 default)).1, (vecR ((C58.cuts t).getD 1 default)).1, (oneR ((C58.cuts t).getD 2 default)).1⟩

theorem body_rounds (ws : List (List UInt8)) (i : Nat) (xs : List Body) (hi : i < ws.length) (hl : ws.length ≤ 2 ^ 30) (hx : xs.length = i) (hw : (ws.getD i default).length ≤ 2 ^ 30) :
    (∃ fl, (impl_ReadBodies_loop0_step (((ws.length : Nat) : Int), ws) (((i : Nat) : Int), xs)).get = some ((match bodyR (ws.getD i default) with
      | none => .inr (.inl ())
      | some b => .inl (((i + 1 : Nat) : Int), xs ++ [b])), fl)) ∧
    (∃ fl, (spec_l08ReadBodies_loop0_step ws (((i : Nat) : Int), xs)).get = some ((match bodyR (ws.getD i default) with
      | none => .inr (.inl ())
      | some b => .inl (((i + 1 : Nat) : Int), xs ++ [b])), fl)) := by
  generalize hT : ws.getD i default = t at hw
  obtain ⟨s1, s2⟩ := C58.split_eq t (by omega)
  obtain ⟨c1, c2⟩ := C58.cut_eq t (by omega)
  have hn := nat_next hi (by omega)
  have hb : (((List.length (C58.cuts t) : Nat) : Int) != 3) = !decide ((C58.cuts t).length = 3) := bne_len _ 3
  unfold bodyR impl_ReadBodies_loop0_step spec_l08ReadBodies_loop0_step
  cases hd : decide ((C58.cuts t).length = 3) with
  | false =>
    rw [hd] at hb
    constructor
    · refine ⟨[], ?_⟩
      simp only [DT.get, nat_dec hi, nat_ge, Bool.and_self, Int.toNat_natCast, decide_eq_true hi, hT, s1, s2, hb, Bool.not_false]
    · refine ⟨[], ?_⟩
      simp only [DT.get, nat_dec hi, nat_ge, Bool.and_self, Int.toNat_natCast, decide_eq_true hi, hT, c1, c2, hb, Bool.not_false]
  | true =>
    rw [hd] at hb
    have hl3 := of_decide_eq_true hd
    have i0 : decide ((0 : Int) < ((List.length (C58.cuts t) : Nat) : Int)) = true := in_of (k := 0) (by omega)
    have i1 : decide ((1 : Int) < ((List.length (C58.cuts t) : Nat) : Int)) = true := in_of (k := 1) (by omega)
    have i2 : decide ((2 : Int) < ((List.length (C58.cuts t) : Nat) : Int)) = true := in_of (k := 2) (by omega)
    have j0 : decide (0 < List.length (C58.cuts t)) = true := decide_eq_true (by omega)
    have j1 : decide (1 < List.length (C58.cuts t)) = true := decide_eq_true (by omega)
    have j2 : decide (2 < List.length (C58.cuts t)) = true := decide_eq_true (by omega)
    have k0 : decide (0 ≤ 0) = true := rfl
    have k1 : decide (0 ≤ 1) = true := rfl
    have k2 : decide (0 ≤ 2) = true := rfl
    have m0 : ((C58.cuts t).getD 0 default).length ≤ 2 ^ 30 := Nat.le_trans (C58.part_len t (getD_in (by omega))) hw
    have m1 : ((C58.cuts t).getD 1 default).length ≤ 2 ^ 30 := Nat.le_trans (C58.part_len t (getD_in (by omega))) hw
    have m2 : ((C58.cuts t).getD 2 default).length ≤ 2 ^ 30 := Nat.le_trans (C58.part_len t (getD_in (by omega))) hw
    obtain ⟨a1, a2⟩ := vec_impl _ m0
    obtain ⟨b1, b2⟩ := vec_impl _ m1
    obtain ⟨d1, d2⟩ := one_impl _ m2
    obtain ⟨e1, e2⟩ := vec_spec _ m0
    obtain ⟨f1, f2⟩ := vec_spec _ m1
    obtain ⟨g1, g2⟩ := one_spec _ m2
    have cn : ∀ b : Body, (decide ((List.length xs + List.length [b]) * 28 ≤ 140737488355328) && decide (List.length xs + List.length [b] ≤ 9223372036854775807)) = true := fun b => by
      rw [Bool.and_eq_true, decide_eq_true_eq, decide_eq_true_eq, List.length_singleton]; omega
    cases hA : (vecR ((C58.cuts t).getD 0 default)).2 with
    | false =>
      constructor
      · exact ⟨[], by simp only [DT.get, nat_dec hi, nat_ge, Bool.and_self, Int.toNat_natCast, decide_eq_true hi, hT, s1, s2, hb, Bool.not_true, i0, i1, i2, j0, j1, j2, k0, k1, k2, a1, a2, b1, b2, d1, d2, hA, Bool.not_false, Bool.false_and]⟩
      · exact ⟨[], by simp only [DT.get, nat_dec hi, nat_ge, Bool.and_self, Int.toNat_natCast, decide_eq_true hi, hT, c1, c2, hb, Bool.not_true, i0, i1, i2, j0, j1, j2, k0, k1, k2, e1, e2, f1, f2, g1, g2, hA, Bool.not_false, Bool.false_and]⟩
    | true =>
      cases hB : (vecR ((C58.cuts t).getD 1 default)).2 with
      | false =>
        constructor
        · exact ⟨[], by simp only [DT.get, nat_dec hi, nat_ge, Bool.and_self, Int.toNat_natCast, decide_eq_true hi, hT, s1, s2, hb, Bool.not_true, i0, i1, i2, j0, j1, j2, k0, k1, k2, a1, a2, b1, b2, d1, d2, hA, hB, Bool.not_false, Bool.false_and, Bool.true_and]⟩
        · exact ⟨[], by simp only [DT.get, nat_dec hi, nat_ge, Bool.and_self, Int.toNat_natCast, decide_eq_true hi, hT, c1, c2, hb, Bool.not_true, i0, i1, i2, j0, j1, j2, k0, k1, k2, e1, e2, f1, f2, g1, g2, hA, hB, Bool.not_false, Bool.false_and, Bool.true_and]⟩
      | true =>
        cases hC : (oneR ((C58.cuts t).getD 2 default)).2 with
        | false =>
          constructor
          · exact ⟨[], by simp only [DT.get, nat_dec hi, nat_ge, Bool.and_self, Int.toNat_natCast, decide_eq_true hi, hT, s1, s2, hb, Bool.not_true, i0, i1, i2, j0, j1, j2, k0, k1, k2, a1, a2, b1, b2, d1, d2, hA, hB, hC, Bool.not_false, Bool.false_and, Bool.true_and]⟩
          · exact ⟨[], by simp only [DT.get, nat_dec hi, nat_ge, Bool.and_self, Int.toNat_natCast, decide_eq_true hi, hT, c1, c2, hb, Bool.not_true, i0, i1, i2, j0, j1, j2, k0, k1, k2, e1, e2, f1, f2, g1, g2, hA, hB, hC, Bool.not_false, Bool.false_and, Bool.true_and]⟩
        | true =>
          constructor
          · exact ⟨_, by simp only [DT.get, nat_dec hi, nat_ge, Bool.and_self, Int.toNat_natCast, decide_eq_true hi, hT, s1, s2, hb, Bool.not_true, i0, i1, i2, j0, j1, j2, k0, k1, k2, a1, a2, b1, b2, d1, d2, hA, hB, hC, cn, hn]; rfl⟩
          · exact ⟨_, by simp only [DT.get, nat_dec hi, nat_ge, Bool.and_self, Int.toNat_natCast, decide_eq_true hi, hT, c1, c2, hb, Bool.not_true, i0, i1, i2, j0, j1, j2, k0, k1, k2, e1, e2, f1, f2, g1, g2, hA, hB, hC, cn, hn]; rfl⟩

theorem texts_impl (ws : List (List UInt8)) (hl : ws.length ≤ 2 ^ 30) (hw : ∀ w ∈ ws, w.length ≤ 2 ^ 30) : impl_ReadBodies_loop0_ends (((ws.length : Nat) : Int), ws) (0, []) = true ∧ impl_ReadBodies_loop0 (((ws.length : Nat) : Int), ws) (0, []) = outG bodyR ws := by
  refine loop_post (step := impl_ReadBodies_loop0_step (((ws.length : Nat) : Int), ws)) (fun s => ∃ i : Nat, s.1 = (i : Int) ∧ i ≤ ws.length ∧ s.2.length = i ∧ readG bodyR ws = (readG bodyR (ws.drop i)).map (s.2 ++ ·)) (fun s => ws.length - s.1.toNat) (fun r => r = outG bodyR ws) ?_ (0, []) ⟨0, rfl, Nat.zero_le _, rfl, by simp⟩
  rintro ⟨s, xs⟩ ⟨i, hs, hi, hx, hr⟩
  simp only at hs hx hr
  subst hs
  rcases Nat.lt_or_ge i ws.length with hlt | hge
  · obtain ⟨⟨fl, hk⟩, _⟩ := body_rounds ws i xs hlt hl hx (hw _ (getD_in (d := default) hlt))
    rw [readG_drop bodyR hlt] at hr
    cases hq : bodyR (ws.getD i default) with
    | none =>
      rw [hq] at hk hr
      exact ⟨_, fl, hk, by unfold outG; rw [hr]; rfl⟩
    | some x =>
      rw [hq] at hk hr
      refine ⟨_, fl, hk, ⟨i + 1, rfl, hlt, by simp [hx], by rw [hr]; exact map_appG⟩, ?_⟩
      show ws.length - ((i + 1 : Nat) : Int).toNat < ws.length - ((i : Nat) : Int).toNat
      rw [Int.toNat_natCast, Int.toNat_natCast]
      omega
  · have he : i = ws.length := Nat.le_antisymm hi hge
    refine ⟨.inr (.inr xs), [0], ?_, ?_⟩
    · unfold impl_ReadBodies_loop0_step
      simp only [DT.get, he, nat_not]
    · unfold outG
      rw [hr, he, List.drop_length]
      simp [readG]

theorem texts_spec (ws : List (List UInt8)) (hl : ws.length ≤ 2 ^ 30) (hw : ∀ w ∈ ws, w.length ≤ 2 ^ 30) : spec_l08ReadBodies_loop0_ends ws (0, []) = true ∧ spec_l08ReadBodies_loop0 ws (0, []) = outG bodyR ws := by
  refine loop_post (step := spec_l08ReadBodies_loop0_step ws) (fun s => ∃ i : Nat, s.1 = (i : Int) ∧ i ≤ ws.length ∧ s.2.length = i ∧ readG bodyR ws = (readG bodyR (ws.drop i)).map (s.2 ++ ·)) (fun s => ws.length - s.1.toNat) (fun r => r = outG bodyR ws) ?_ (0, []) ⟨0, rfl, Nat.zero_le _, rfl, by simp⟩
  rintro ⟨s, xs⟩ ⟨i, hs, hi, hx, hr⟩
  simp only at hs hx hr
  subst hs
  rcases Nat.lt_or_ge i ws.length with hlt | hge
  · obtain ⟨_, fl, hk⟩ := body_rounds ws i xs hlt hl hx (hw _ (getD_in (d := default) hlt))
    rw [readG_drop bodyR hlt] at hr
    cases hq : bodyR (ws.getD i default) with
    | none =>
      rw [hq] at hk hr
      exact ⟨_, fl, hk, by unfold outG; rw [hr]; rfl⟩
    | some x =>
      rw [hq] at hk hr
      refine ⟨_, fl, hk, ⟨i + 1, rfl, hlt, by simp [hx], by rw [hr]; exact map_appG⟩, ?_⟩
      show ws.length - ((i + 1 : Nat) : Int).toNat < ws.length - ((i : Nat) : Int).toNat
      rw [Int.toNat_natCast, Int.toNat_natCast]
      omega
  · have he : i = ws.length := Nat.le_antisymm hi hge
    refine ⟨.inr (.inr xs), [0], ?_, ?_⟩
    · unfold spec_l08ReadBodies_loop0_step
      simp only [DT.get, he, nat_not]
    · unfold outG
      rw [hr, he, List.drop_length]
      simp [readG]

def bodiesR (a : List UInt8) : Option (List Body) := match a == [110, 111, 110, 101] with
  | true => some []
  | false => match readG bodyR (C47.cuts a) with
    | none => none
    | some l => match okL l with
      | false => none
      | true => some l

theorem bodies_ok {a : List UInt8} {l : List Body} (h : bodiesR a = some l) : l.length ≤ 16 := by
  unfold bodiesR at h
  split at h
  · cases h; simp
  · split at h
    · cases h
    · split at h
      · cases h
      · rename_i hk
        cases h
        unfold okL at hk
        rw [Bool.and_eq_true, decide_eq_true_eq] at hk
        omega

theorem readBodies_impl (a : List UInt8) (ha : a.length ≤ 2 ^ 20) : impl_ReadBodies_need a = true ∧ impl_ReadBodies a = match bodiesR a with
    | none => .inl ()
    | some l => .inr l := by
  obtain ⟨s1, s2⟩ := C47.split_eq a (by omega)
  have hcl := C47.cuts_le a
  have hw : ∀ w ∈ C47.cuts a, w.length ≤ 2 ^ 30 := fun w h => by have := C47.part_len a h; omega
  obtain ⟨t1, t2⟩ := texts_impl (C47.cuts a) (by omega) hw
  have hu : impl_unslashed_need a = true ∧ impl_unslashed a = bif a == [110, 111, 110, 101] then .inl () else .inr (C47.cuts a) := by
    have key : (impl_unslashed_tree a).get = some (bif a == [110, 111, 110, 101] then .inl () else .inr (C47.cuts a)) := by
      unfold impl_unslashed_tree
      cases hq : (a == [110, 111, 110, 101]) <;> simp only [DT.get, hq, s1, s2, cond_true, cond_false]
    exact DT.of_get key
  obtain ⟨u1, u2⟩ := hu
  have key : (impl_ReadBodies_tree a).get = some (match bodiesR a with
      | none => .inl ()
      | some l => .inr l) := by
    unfold impl_ReadBodies_tree bodiesR
    cases hq : (a == [110, 111, 110, 101]) with
    | true =>
      rw [hq] at u2
      simp only [cond_true] at u2
      obtain ⟨g1, _, g3, g4⟩ := give_same [] (by decide)
      rw [g4] at g3
      have g3 : impl_asBodies [] = .inr [] := g3
      simp only [DT.get, u1, u2, isL, g1, g3]
    | false =>
      rw [hq] at u2
      simp only [cond_false] at u2
      unfold outG at t2
      cases hr : readG bodyR (C47.cuts a) with
      | none =>
        rw [hr] at t2
        simp only at t2
        simp only [DT.get, u1, u2, isL, rightD, t1, t2]
      | some l =>
        rw [hr] at t2
        simp only at t2
        obtain ⟨g1, _, g3, g4⟩ := give_same l (by rw [readG_len bodyR hr]; omega)
        rw [g4] at g3
        cases hk : okL l with
        | false => rw [hk] at g3; simp only [cond_false] at g3; simp only [DT.get, u1, u2, isL, rightD, t1, t2, g1, g3, hk]
        | true => rw [hk] at g3; simp only [cond_true] at g3; simp only [DT.get, u1, u2, isL, rightD, t1, t2, g1, g3, hk]
  exact DT.of_get key

theorem readBodies_spec (a : List UInt8) (ha : a.length ≤ 2 ^ 20) : spec_ReadBodies_need a = true ∧ spec_ReadBodies a = match bodiesR a with
    | none => .inr ()
    | some l => .inl l := by
  obtain ⟨s1, s2⟩ := C47.cut_eq a (by omega)
  have hcl := C47.cuts_le a
  have hw : ∀ w ∈ C47.cuts a, w.length ≤ 2 ^ 30 := fun w h => by have := C47.part_len a h; omega
  obtain ⟨t1, t2⟩ := texts_spec (C47.cuts a) (by omega) hw
  have key : (spec_l08ReadBodies_tree a).get = some (match bodiesR a with
      | none => .inr ()
      | some l => .inl l) := by
    unfold spec_l08ReadBodies_tree bodiesR
    cases hq : (a == [110, 111, 110, 101]) with
    | true => simp only [DT.get]
    | false =>
      unfold outG at t2
      cases hr : readG bodyR (C47.cuts a) with
      | none =>
        rw [hr] at t2
        simp only at t2
        simp only [DT.get, s1, s2, t1, t2, isL]
      | some l =>
        rw [hr] at t2
        simp only at t2
        obtain ⟨_, g2, _, g4⟩ := give_same l (by rw [readG_len bodyR hr]; omega)
        cases hk : okL l with
        | false => rw [hk] at g4; simp only [cond_false] at g4; simp only [DT.get, s1, s2, t1, t2, isL, rightD, g2, g4, hk]
        | true => rw [hk] at g4; simp only [cond_true] at g4; simp only [DT.get, s1, s2, t1, t2, isL, rightD, g2, g4, hk]
  obtain ⟨k1, k2⟩ := DT.of_get key
  have k1 : spec_l08ReadBodies_need a = true := k1
  have k2 : spec_l08ReadBodies a = _ := k2
  have key2 : (spec_ReadBodies_tree a).get = some (match bodiesR a with
      | none => .inr ()
      | some l => .inl l) := by
    unfold spec_ReadBodies_tree
    cases hb : bodiesR a with
    | none => rw [hb] at k2; simp only at k2; simp only [DT.get, k1, k2, isL]
    | some l => rw [hb] at k2; simp only at k2; simp only [DT.get, k1, k2, isL, leftD]
  exact DT.of_get key2

theorem plain3 (a : List UInt8) : laws_FnExactReadBodies_need a = true ∧ laws_FnExactReadBodies a = true := by
  have key : (laws_FnExactReadBodies_tree a).get = some true := by
    unfold laws_FnExactReadBodies_tree
    cases hs : decide (((List.length a : Nat) : Int) > 1048576) with
    | true => simp only [DT.get, hs]
    | false =>
      have ha : a.length ≤ 2 ^ 20 := by
        have := of_decide_eq_false hs
        omega
      obtain ⟨p1, p2⟩ := readBodies_impl a ha
      obtain ⟨q1, q2⟩ := readBodies_spec a ha
      cases hb : bodiesR a with
      | none =>
        rw [hb] at p2 q2
        simp only at p2 q2
        obtain ⟨m1, m2, m3, m4, m5, m6⟩ := marks0
        have hm : laws_markBodyS [] 1 = (1, []) := by
          have h1 := (mark_all [] (by decide)).2.1
          have h2 := List.eq_nil_of_length_eq_zero ((mark_all [] (by decide)).2.2.1)
          exact Prod.ext h1 h2
        simp only [DT.get, hs, p1, p2, q1, q2, isL, m1, m2, m3, m5, m6, Bool.not_true, one_pos, one_ne, m4]
      | some l =>
        rw [hb] at p2 q2
        simp only at p2 q2
        have hl := bodies_ok hb
        obtain ⟨m1, m2, m3, m4, m5, m6⟩ := marks l (by omega)
        simp only [DT.get, hs, p1, p2, q1, q2, isL, leftD, rightD, m1, m2, m3, m4, m5, m6, Bool.not_true, len_pos, len_ne]
  exact DT.of_get key

end Go.Proofs.YtcipkfndnkmjlaaGreatDoor
