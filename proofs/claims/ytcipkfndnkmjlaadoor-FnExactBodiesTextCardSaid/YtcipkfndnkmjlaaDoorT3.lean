/- Plain law of the texts, part 3: bodies that are valid; their texts: the program's and the reference's. -/
import Derived.Test.YtcipkfndnkmjlaaDoorT2
namespace Go.Proofs.YtcipkfndnkmjlaaDoor
set_option linter.unusedVariables false
set_option linter.unusedSimpArgs false

theorem sameFloat_self (x : Nat) : laws_sameFloat x x = true := by
  unfold laws_sameFloat laws_sameFloat_tree
  cases h1 : fne .f64 x x with
  | true => simp only [DT.val, h1]
  | false =>
    have h2 : feq .f64 x x = true := by
      have := fne_feq .f64 x x
      rw [h1] at this
      simpa using this.symm
    cases h3 : feq .f64 x 0 <;> simp only [DT.val, h1, h3, h2, beq_self_eq_true]

theorem eqVector_self (v : Vec) : laws_eqVector_need v v = true ∧ laws_eqVector v v = true := by
  unfold laws_eqVector_need laws_eqVector laws_eqVector_tree
  simp only [DT.ok, DT.val, fconvOk_up, sameFloat_self, Bool.not_true]
  exact ⟨trivial, trivial⟩

theorem eqBody_self (b : Body) : laws_eqBody_need b b = true ∧ laws_eqBody b b = true := by
  unfold laws_eqBody_need laws_eqBody laws_eqBody_tree
  simp only [DT.ok, DT.val, fconvOk_up, sameFloat_self, (eqVector_self _).1, (eqVector_self _).2, Bool.not_true]
  exact ⟨trivial, trivial⟩

theorem eqBodyS_self (l : List Body) (hl : l.length ≤ 2 ^ 62) : laws_eqBodyS_need l l = true ∧ laws_eqBodyS l l = true := by
  obtain ⟨h1, h2⟩ := scan_loop (α := Unit) (β := Unit) (step := laws_eqBodyS_loop0_step (l, l)) l.length (fun _ => none) () (fun i hi => ⟨[], by
    unfold laws_eqBodyS_loop0_step
    simp only [DT.get, nat_dec hi, nat_ge, Bool.and_self, (eqBody_self _).1, (eqBody_self _).2, Bool.not_true, nat_next hi hl]⟩) ⟨[], by
    unfold laws_eqBodyS_loop0_step
    simp only [DT.get, nat_not]⟩
  have hf : firstOf (fun _ => (none : Option Unit)) l.length = none := by
    unfold firstOf
    rw [List.findSome?_eq_none_iff]
    exact fun _ _ => rfl
  rw [hf] at h2
  have h1 : laws_eqBodyS_loop0_ends (l, l) 0 = true := h1
  have h2 : laws_eqBodyS_loop0 (l, l) 0 = .inr () := h2
  have hne : (((l.length : Nat) : Int) != ((l.length : Nat) : Int)) = false := by simp
  unfold laws_eqBodyS_need laws_eqBodyS laws_eqBodyS_tree
  simp only [DT.ok, DT.val, hne, h1, h2, isL]
  exact ⟨trivial, trivial⟩

theorem getD_set {α : Type} {l : List α} {i : Nat} {x d : α} (h : i < l.length) : List.getD (List.set l i x) i d = x := by
  rw [List.getD_eq_getElem?_getD, List.getElem?_set_self h, Option.getD_some]
theorem getD_set_ne {α : Type} {l : List α} {i j : Nat} {x d : α} (h : i ≠ j) : List.getD (List.set l i x) j d = List.getD l j d := by
  rw [List.getD_eq_getElem?_getD, List.getD_eq_getElem?_getD, List.getElem?_set_ne h]

/-! ## That lists are bodies -/

def finV (v : Vec) : Bool := isNum .f32 v.X && isNum .f32 v.Y && isNum .f32 v.Z
def okB (b : Body) : Bool := finV b.At && finV b.Speed && (isNum .f32 b.Mass && fge .f32 b.Mass 0)

theorem l01VFinite_eq (v : Vec) : spec_l01VFinite v = finV v := by
  unfold spec_l01VFinite spec_l01VFinite_tree finV
  simp only [l01Finite_eq]
  cases isNum .f32 v.X <;> cases isNum .f32 v.Y <;> cases isNum .f32 v.Z <;> rfl
theorem l02Least_eq (x : Nat) : spec_l02Least x = (isNum .f32 x && fge .f32 x 0) := by
  unfold spec_l02Least spec_l02Least_tree
  simp only [l01Finite_eq]
  cases isNum .f32 x <;> rfl
theorem l02Body_eq (b : Body) : spec_l02Body b = okB b := by
  unfold spec_l02Body spec_l02Body_tree okB
  simp only [l01VFinite_eq, l02Least_eq]
  cases finV b.At <;> cases finV b.Speed <;> rfl

theorem isFiniteVector_eq (v : Vec) : impl_isFiniteVector_need v = true ∧ impl_isFiniteVector v = finV v := by
  have h := areFinite_eq [v.X, v.Y, v.Z] (by show 3 ≤ 2 ^ 62; decide)
  have ha : [v.X, v.Y, v.Z].all (isNum .f32) = finV v := by
    unfold finV
    simp only [List.all_cons, List.all_nil, Bool.and_true, Bool.and_assoc]
  have e : impl_Vector_numbers (⟨v.X, v.Y, v.Z⟩ : Vec) = [v.X, v.Y, v.Z] := rfl
  unfold impl_isFiniteVector_need impl_isFiniteVector impl_isFiniteVector_tree
  simp only [DT.ok, DT.val, e, h.1, h.2, ha]
  exact ⟨trivial, trivial⟩

theorem flt_fge {x : Nat} (h : isNum .f32 x = true) : flt .f32 x 0 = !fge .f32 x 0 := by
  have h0 : isNum .f32 0 = true := by decide +kernel
  rw [flt_num h h0, fge_num h h0, ← decide_not, decide_eq_decide]
  omega

theorem AreBodies_1_eq (b : Body) : impl_AreBodies_1_need b = true ∧ impl_AreBodies_1 b = !okB b := by
  unfold impl_AreBodies_1_need impl_AreBodies_1 impl_AreBodies_1_tree okB
  simp only [DT.ok, DT.val, (isFiniteVector_eq _).1, (isFiniteVector_eq _).2, IsFinite_need, IsFinite_eq]
  cases finV b.At <;> cases finV b.Speed <;> first
    | exact ⟨rfl, rfl⟩
    | (cases h : isNum .f32 b.Mass
       · exact ⟨rfl, rfl⟩
       · simp only [Bool.not_true, Bool.true_and, flt_fge h]
         exact ⟨trivial, trivial⟩)

/-- Bodies. -/
def okL (l : List Body) : Bool := decide (((l.length : Nat) : Int) ≤ 16) && l.all okB

theorem l02Are_eq (l : List Body) (hl : l.length ≤ 2 ^ 62) : spec_l02Are_need l = true ∧ spec_l02Are l = okL l := by
  unfold okL
  cases h16 : decide (((l.length : Nat) : Int) ≤ 16) with
  | false =>
    have h16' := of_decide_eq_false h16
    obtain ⟨h1, h2⟩ := loop_post (step := spec_l02Are_loop0_step l) (fun s => s = 0) (fun _ => 0) (fun r => r = .inr ()) (by
      rintro s rfl
      have hd : decide ((0 : Int) < ((l.length : Nat) : Int)) = true := decide_eq_true (by omega)
      refine ⟨.inr (.inr ()), [], ?_, rfl⟩
      unfold spec_l02Are_loop0_step
      simp only [DT.get, hd, h16]) 0 rfl
    have h1 : spec_l02Are_loop0_ends l 0 = true := h1
    have h2 : spec_l02Are_loop0 l 0 = .inr () := h2
    unfold spec_l02Are_need spec_l02Are spec_l02Are_tree
    simp only [DT.ok, DT.val, h1, h2, isL, h16, Bool.false_and]
    exact ⟨trivial, trivial⟩
  | true =>
    obtain ⟨h1, h2⟩ := scan_loop (α := Unit) (β := Unit) (step := spec_l02Are_loop0_step l) l.length (fun i => bif okB (l.getD i default) then none else some ()) () (fun i hi => by
      refine ⟨[], ?_⟩
      unfold spec_l02Are_loop0_step
      simp only [DT.get, nat_dec hi, nat_in hi, h16, l02Body_eq, Int.toNat_natCast, nat_next hi hl]
      cases okB (l.getD i default) <;> rfl) ⟨[], by
      unfold spec_l02Are_loop0_step
      simp only [DT.get, nat_not]⟩
    have hall := firstOf_all okB (fun _ => ()) default l
    have h1 : spec_l02Are_loop0_ends l 0 = true := h1
    have h2 : spec_l02Are_loop0 l 0 = _ := h2
    unfold spec_l02Are_need spec_l02Are spec_l02Are_tree
    simp only [DT.ok, DT.val, h1, h2, h16, Bool.true_and]
    rw [← hall]
    cases hf : firstOf (fun i => bif okB (l.getD i default) then none else some ()) l.length with
    | none => constructor <;> first | trivial | rfl
    | some a => constructor <;> first | trivial | rfl

theorem AreBodies_eq (l : List Body) (hl : l.length ≤ 2 ^ 62) : impl_AreBodies_need l = true ∧ impl_AreBodies l = okL l := by
  obtain ⟨h1, h2⟩ := scan_loop (α := Int) (β := Unit) (step := slices_IndexFunc___impl_Body_impl_Body__impl_AreBodies_1_loop0_step (l, ((l.length : Nat) : Int))) l.length (fun i => bif okB (l.getD i default) then none else some (i : Int)) () (fun i hi => by
    refine ⟨[], ?_⟩
    unfold slices_IndexFunc___impl_Body_impl_Body__impl_AreBodies_1_loop0_step
    simp only [DT.get, nat_dec hi, nat_in hi, (AreBodies_1_eq _).1, (AreBodies_1_eq _).2, Int.toNat_natCast, nat_next hi hl]
    cases okB (l.getD i default) <;> rfl) ⟨[], by
    unfold slices_IndexFunc___impl_Body_impl_Body__impl_AreBodies_1_loop0_step
    simp only [DT.get, nat_not]⟩
  have hall := firstOf_all okB (fun i => (i : Int)) default l
  have h1 : slices_IndexFunc___impl_Body_impl_Body__impl_AreBodies_1_loop0_ends (l, ((l.length : Nat) : Int)) 0 = true := h1
  have h2 : slices_IndexFunc___impl_Body_impl_Body__impl_AreBodies_1_loop0 (l, ((l.length : Nat) : Int)) 0 = _ := h2
  have key : slices_IndexFunc___impl_Body_impl_Body__impl_AreBodies_1_need l = true ∧ decide (slices_IndexFunc___impl_Body_impl_Body__impl_AreBodies_1 l ≥ 0) = !l.all okB := by
    unfold slices_IndexFunc___impl_Body_impl_Body__impl_AreBodies_1_need slices_IndexFunc___impl_Body_impl_Body__impl_AreBodies_1 slices_IndexFunc___impl_Body_impl_Body__impl_AreBodies_1_tree
    simp only [DT.ok, DT.val, h1, h2]
    rw [← hall]
    cases hf : firstOf (fun i => bif okB (l.getD i default) then none else some (i : Int)) l.length with
    | none => constructor <;> first | trivial | rfl
    | some a =>
      have ha : 0 ≤ a := by
        unfold firstOf at hf
        obtain ⟨i, _, hi⟩ := List.exists_of_findSome?_eq_some hf
        cases hq : okB (l.getD i default) <;> rw [hq] at hi
        · simp only [cond_false, Option.some.injEq] at hi; omega
        · cases hi
      simp only [isL, leftD]
      exact ⟨trivial, decide_eq_true ha⟩
  have key2 : slices_ContainsFunc___impl_Body_impl_Body__impl_AreBodies_1_need l = true ∧ slices_ContainsFunc___impl_Body_impl_Body__impl_AreBodies_1 l = !l.all okB := by
    unfold slices_ContainsFunc___impl_Body_impl_Body__impl_AreBodies_1_need slices_ContainsFunc___impl_Body_impl_Body__impl_AreBodies_1 slices_ContainsFunc___impl_Body_impl_Body__impl_AreBodies_1_tree
    simp only [DT.ok, DT.val, key.1, key.2]
    exact ⟨trivial, trivial⟩
  unfold impl_AreBodies_need impl_AreBodies impl_AreBodies_tree okL
  simp only [DT.ok, DT.val, key2.1, key2.2, Bool.not_not]
  cases decide (((l.length : Nat) : Int) ≤ 16) <;> constructor <;> first | trivial | rfl

theorem toBodyS_eq (l : List Body) (hl : l.length ≤ 2 ^ 40) : laws_toBodyS_need l = true ∧ laws_toBodyS l = l := by
  have ht : ∀ b : Body, laws_toBody b = b := fun b => rfl
  obtain ⟨h1, h2⟩ := loop_post (step := laws_toBodyS_loop0_step l) (fun s => ∃ j : Nat, s.1 = (j : Int) ∧ j ≤ l.length ∧ s.2.length = l.length ∧ ∀ q, q < j → s.2.getD q default = l.getD q default) (fun s => l.length - s.1.toNat) (fun r => r = (List.range l.length).map fun q => l.getD q default) (by
    rintro ⟨a, o⟩ ⟨j, hj, hjl, ho, hq⟩
    simp only at hj ho hq
    subst hj
    rcases Nat.lt_or_ge j l.length with hlt | hge
    · have hm : l.length - ((j + 1 : Nat) : Int).toNat < l.length - ((j : Nat) : Int).toNat := by
        rw [Int.toNat_natCast, Int.toNat_natCast]
        omega
      have hw := nat_next hlt (by omega)
      have hlo : j < o.length := by omega
      refine ⟨.inl (((j + 1 : Nat) : Int), List.set o j (l.getD j default)), [0], ?_, ⟨j + 1, rfl, hlt, by rw [List.length_set, ho], fun q hq' => ?_⟩, hm⟩
      · unfold laws_toBodyS_loop0_step
        simp only [DT.get, nat_dec hlt, nat_dec hlo, nat_ge, Bool.and_self, Int.toNat_natCast, decide_eq_true hlo, hw, ht]
      · rcases Nat.lt_or_ge q j with g | g
        · rw [getD_set_ne (by omega)]
          exact hq q g
        · rw [show q = j from by omega, getD_set hlo]
    · have he : j = l.length := Nat.le_antisymm hjl hge
      refine ⟨.inr o, [0], ?_, ?_⟩
      · unfold laws_toBodyS_loop0_step
        simp only [DT.get, he, nat_not]
      · exact eq_of_getD ho (fun q hq' => hq q (by omega))) (0, List.replicate l.length (⟨⟨0, 0, 0⟩, ⟨0, 0, 0⟩, 0⟩ : Body)) ⟨0, rfl, Nat.zero_le _, by simp, fun q hq => absurd hq (Nat.not_lt_zero q)⟩
  have h1 : laws_toBodyS_loop0_ends l (0, List.replicate l.length (⟨⟨0, 0, 0⟩, ⟨0, 0, 0⟩, 0⟩ : Body)) = true := h1
  have h2 : laws_toBodyS_loop0 l (0, List.replicate l.length (⟨⟨0, 0, 0⟩, ⟨0, 0, 0⟩, 0⟩ : Body)) = (List.range l.length).map fun q => l.getD q default := h2
  have he : ((List.range l.length).map fun q => l.getD q default) = l := (eq_of_getD rfl (fun j hj => rfl)).symm
  have c1 : decide ((0 : Int) ≤ ((l.length : Nat) : Int)) = true := decide_eq_true (by omega)
  have c2 : decide (((l.length : Nat) : Int) ≤ ((l.length : Nat) : Int)) = true := decide_eq_true (by omega)
  have c3 : decide (28 * ((l.length : Nat) : Int) ≤ 281474976710656) = true := decide_eq_true (by omega)
  have c4 : decide (((l.length : Nat) : Int) ≤ 9223372036854775807) = true := decide_eq_true (by omega)
  unfold laws_toBodyS_need laws_toBodyS laws_toBodyS_tree
  simp only [DT.ok, DT.val, c1, c2, c3, c4, Bool.and_self, Int.toNat_natCast, h1, h2, he]
  exact ⟨trivial, trivial⟩

theorem sz_eq (l : List Body) (hl : l.length ≤ maxLen) : decide (laws_szBodyS l 1048576 < 0) = !decide (l.length ≤ 1048576) := by
  unfold maxLen at hl
  have hw : IntKind.wrap .i64 (1048576 - ((l.length : Nat) : Int)) = 1048576 - ((l.length : Nat) : Int) := wrap_small (by omega) (by omega)
  unfold laws_szBodyS laws_szBodyS_tree
  by_cases h : l.length ≤ 1048576
  · have h0 : decide (1048576 - ((l.length : Nat) : Int) < 0) = false := decide_eq_false (by omega)
    simp only [DT.val, hw, h0]
    rw [decide_eq_true h]
    first | rfl | (rw [h0]; rfl)
  · have h0 : decide (1048576 - ((l.length : Nat) : Int) < 0) = true := decide_eq_true (by omega)
    simp only [DT.val, hw, h0]
    rw [decide_eq_false h]
    first | rfl | (rw [h0]; rfl)


/-! ## Texts -/

theorem vecT_length (v : Vec) : (vecT v).length = 26 := by
  unfold vecT numsT
  simp only [List.map_cons, List.map_nil]
  rw [Go.Lib.join_length]
  simp [Go.Lib.lens, hexW_length]
theorem oneT_length (x : Nat) : (numsT [x]).length = 8 := by
  unfold numsT
  simp only [List.map_cons, List.map_nil]
  rw [Go.Lib.join_length]
  simp [Go.Lib.lens, hexW_length]

/-- The text of a list: parts between slashes. -/
def listT {α : Type} (f : α → List UInt8) (l : List α) : List UInt8 := match l with
  | [] => noneT
  | l => Go.Lib.join (l.map f) [47]
theorem listT_pos {α : Type} (f : α → List UInt8) {l : List α} (h : 0 < l.length) : listT f l = Go.Lib.join (l.map f) [47] := by
  cases l with
  | nil => simp at h
  | cons x r => rfl

theorem list_len {α : Type} (f : α → List UInt8) (B : Nat) (l : List α) (hB : ∀ x ∈ l, (f x).length ≤ B) (i : Nat) : (Go.Lib.join ((l.take i).map f) [47]).length ≤ i * (B + 1) := by
  have h := join_le [47] B ((l.take i).map f) (fun x hx => by
    obtain ⟨y, hy, rfl⟩ := List.mem_map.1 hx
    exact hB y (List.mem_of_mem_take hy))
  have h2 : ((l.take i).map f).length ≤ i := by simp; omega
  exact Nat.le_trans h (Nat.mul_le_mul_right _ h2)

theorem slashed_eq {α : Type} (f : α → List UInt8) (B : Nat) (hb : B ≤ 2 ^ 24) (l : List α) (hB : ∀ x ∈ l, (f x).length ≤ B) (hl : l.length ≤ 2 ^ 20) : impl_slashed_need (l.map f) = true ∧ impl_slashed (l.map f) = listT f l := by
  have key : (impl_slashed_tree (l.map f)).get = some (listT f l) := by
    unfold impl_slashed_tree
    rcases Nat.eq_zero_or_pos l.length with h0 | h0
    · have : l = [] := List.eq_nil_of_length_eq_zero h0
      subst this
      rfl
    · have hle := list_len f B l hB l.length
      rw [List.take_length] at hle
      have hm : l.length * (B + 1) ≤ 2 ^ 20 * (2 ^ 24 + 1) := Nat.mul_le_mul hl (by omega)
      have e1 : ((((List.length (l.map f) : Nat) : Int)) == 0) = false := by rw [beq_eq_false_iff_ne, List.length_map]; omega
      have e2 : (decide (List.length (l.map f) ≤ 140737488355328) && decide (List.length (Go.Lib.join (l.map f) [47]) ≤ 140737488355328)) = true := by
        rw [Bool.and_eq_true, decide_eq_true_eq, decide_eq_true_eq, List.length_map]; omega
      simp only [DT.get, e1, e2, listT_pos f h0]
  exact DT.of_get key

/-- The text of a body. -/
def bodyT (b : Body) : List UInt8 := vecT b.At ++ [58] ++ vecT b.Speed ++ [58] ++ numsT [b.Mass]
theorem bodyT_length (b : Body) : (bodyT b).length = 62 := by
  unfold bodyT
  simp only [List.length_append, vecT_length, oneT_length, List.length_singleton]

theorem getD_body {l : List Body} (hf : ∀ x ∈ l, x.fits) {i : Nat} (h : i < l.length) : (l.getD i default).fits := by
  rw [List.getD_eq_getElem?_getD, List.getElem?_eq_getElem h]
  exact hf _ (List.getElem_mem h)
theorem one_all {x : Nat} (h : F32 x) : ∀ y ∈ [x], F32 y := by
  intro y hy
  rw [List.mem_singleton.1 hy]
  exact h

theorem body_lens (b : Body) : decide (List.length (vecT b.At) + List.length [58] ≤ 9223372036854775807) = true ∧ decide (List.length (vecT b.At ++ [58]) + List.length (vecT b.Speed) ≤ 9223372036854775807) = true ∧
    decide (List.length (vecT b.At ++ [58] ++ vecT b.Speed) + List.length [58] ≤ 9223372036854775807) = true ∧ decide (List.length (vecT b.At ++ [58] ++ vecT b.Speed ++ [58]) + List.length (numsT [b.Mass]) ≤ 9223372036854775807) = true := by
  simp only [List.length_append, vecT_length, oneT_length, List.length_singleton, List.length_cons, List.length_nil]
  decide

theorem bodies_spec (l : List Body) (hl : l.length ≤ 2 ^ 20) (hf : ∀ x ∈ l, x.fits) : spec_l08Bodies_need l = true ∧ spec_l08Bodies l = listT bodyT l := by
  rcases Nat.eq_zero_or_pos l.length with h0 | h0
  · have : l = [] := List.eq_nil_of_length_eq_zero h0
    subst this
    exact DT.of_get (t := spec_l08Bodies_tree []) rfl
  · have hloop := loop_post (step := spec_l08Bodies_loop0_step l) (fun s => ∃ i : Nat, s.2 = (i : Int) ∧ i ≤ l.length ∧ s.1 = Go.Lib.join ((l.take i).map bodyT) [47]) (fun s => l.length - s.2.toNat) (fun r => r = Go.Lib.join (l.map bodyT) [47]) (by
      rintro ⟨t, s⟩ ⟨i, hs, hi, ht⟩
      simp only at hs ht
      subst hs ht
      rcases Nat.lt_or_ge i l.length with hlt | hge
      · have hfit := getD_body hf hlt
        obtain ⟨g1, g2⟩ := vec_spec (l.getD i default).At hfit.1
        obtain ⟨g3, g4⟩ := vec_spec (l.getD i default).Speed hfit.2.1
        obtain ⟨g5, g6⟩ := nums_spec [(l.getD i default).Mass] (by simp) (one_all hfit.2.2)
        obtain ⟨c1, c2, c3, c4⟩ := body_lens (l.getD i default)
        have e1 : (⟨(l.getD i default).At.X, (l.getD i default).At.Y, (l.getD i default).At.Z⟩ : Vec) = (l.getD i default).At := rfl
        have e2 : (⟨(l.getD i default).Speed.X, (l.getD i default).Speed.Y, (l.getD i default).Speed.Z⟩ : Vec) = (l.getD i default).Speed := rfl
        have e3 : vecT (l.getD i default).At ++ [58] ++ vecT (l.getD i default).Speed ++ [58] ++ numsT [(l.getD i default).Mass] = bodyT (l.getD i default) := rfl
        have hle := list_len bodyT 62 l (fun x _ => by rw [bodyT_length]; exact Nat.le_refl _) i
        refine ⟨.inl (Go.Lib.join ((l.take (i + 1)).map bodyT) [47], ((i + 1 : Nat) : Int)), [], ?_, ⟨i + 1, rfl, hlt, rfl⟩, ?_⟩
        · unfold spec_l08Bodies_loop0_step
          rcases Nat.eq_zero_or_pos i with hz | hz
          · subst hz
            have d0 : decide (((0 : Nat) : Int) > 0) = false := rfl
            have c5 : decide (List.length (Go.Lib.join ((l.take 0).map bodyT) [47]) + List.length (bodyT (l.getD 0 default)) ≤ 9223372036854775807) = true := by
              rw [decide_eq_true_eq, bodyT_length]; omega
            have ej : Go.Lib.join ((l.take 0).map bodyT) [47] ++ bodyT (l.getD 0 default) = Go.Lib.join ((l.take (0 + 1)).map bodyT) [47] := by
              rw [join_first bodyT [47] h0 default, List.take_zero, List.map_nil, Go.Lib.join_nil, List.nil_append]
            simp only [DT.get, nat_dec hlt, nat_ge, Bool.and_self, Int.toNat_natCast, d0, e1, e2, g1, g2, g3, g4, g5, g6, c1, c2, c3, c4, e3, c5, nat_next hlt (Nat.le_trans hl (by decide)), ej]
          · have d0 : decide (((i : Nat) : Int) > 0) = true := decide_eq_true (by omega)
            have c0 : decide (List.length (Go.Lib.join ((l.take i).map bodyT) [47]) + List.length [47] ≤ 9223372036854775807) = true := by
              rw [decide_eq_true_eq, List.length_singleton]; omega
            have c5 : decide (List.length (Go.Lib.join ((l.take i).map bodyT) [47] ++ [47]) + List.length (bodyT (l.getD i default)) ≤ 9223372036854775807) = true := by
              rw [decide_eq_true_eq, bodyT_length, List.length_append, List.length_singleton]; omega
            have ej : Go.Lib.join ((l.take i).map bodyT) [47] ++ [47] ++ bodyT (l.getD i default) = Go.Lib.join ((l.take (i + 1)).map bodyT) [47] := by
              rw [join_step bodyT [47] hlt hz default, List.append_assoc]
            simp only [DT.get, nat_dec hlt, nat_ge, Bool.and_self, Int.toNat_natCast, d0, c0, e1, e2, g1, g2, g3, g4, g5, g6, c1, c2, c3, c4, e3, c5, nat_next hlt (Nat.le_trans hl (by decide)), ej]
        · show l.length - ((i + 1 : Nat) : Int).toNat < l.length - ((i : Nat) : Int).toNat
          rw [Int.toNat_natCast, Int.toNat_natCast]
          omega
      · have he : i = l.length := Nat.le_antisymm hi hge
        refine ⟨.inr (Go.Lib.join ((l.take i).map bodyT) [47]), [], ?_, ?_⟩
        · unfold spec_l08Bodies_loop0_step
          simp only [DT.get, he, nat_not]
        · rw [he, List.take_length]) ([], 0) ⟨0, rfl, Nat.zero_le _, rfl⟩
    have e1 : ((((List.length l : Nat) : Int)) == 0) = false := by rw [beq_eq_false_iff_ne]; omega
    have key : (spec_l08Bodies_tree l).get = some (listT bodyT l) := by
      unfold spec_l08Bodies_tree
      have l1 : spec_l08Bodies_loop0_ends l ([], 0) = true := hloop.1
      have l2 : spec_l08Bodies_loop0 l ([], 0) = _ := hloop.2
      simp only [DT.get, e1, l1, l2, listT_pos bodyT h0]
    exact DT.of_get key

theorem bodies_loop (l : List Body) (hl : l.length ≤ 2 ^ 20) (hf : ∀ x ∈ l, x.fits) : impl_BodiesText_loop0_ends (l, ((l.length : Nat) : Int)) (0, []) = true ∧ impl_BodiesText_loop0 (l, ((l.length : Nat) : Int)) (0, []) = l.map bodyT := by
  exact loop_post (step := impl_BodiesText_loop0_step (l, ((l.length : Nat) : Int))) (fun s => ∃ i : Nat, s.1 = (i : Int) ∧ i ≤ l.length ∧ s.2 = (l.take i).map bodyT) (fun s => l.length - s.1.toNat) (fun r => r = l.map bodyT) (by
    rintro ⟨s, t⟩ ⟨i, hs, hi, ht⟩
    simp only at hs ht
    subst hs ht
    rcases Nat.lt_or_ge i l.length with hlt | hge
    · have hfit := getD_body hf hlt
      obtain ⟨g1, g2⟩ := vec_impl (l.getD i default).At hfit.1
      obtain ⟨g3, g4⟩ := vec_impl (l.getD i default).Speed hfit.2.1
      obtain ⟨g5, g6⟩ := few_impl [(l.getD i default).Mass] (by simp) (one_all hfit.2.2)
      obtain ⟨c1, c2, c3, c4⟩ := body_lens (l.getD i default)
      have e1 : (⟨(l.getD i default).At.X, (l.getD i default).At.Y, (l.getD i default).At.Z⟩ : Vec) = (l.getD i default).At := rfl
      have e2 : (⟨(l.getD i default).Speed.X, (l.getD i default).Speed.Y, (l.getD i default).Speed.Z⟩ : Vec) = (l.getD i default).Speed := rfl
      have e3 : vecT (l.getD i default).At ++ [58] ++ vecT (l.getD i default).Speed ++ [58] ++ numsT [(l.getD i default).Mass] = bodyT (l.getD i default) := rfl
      refine ⟨.inl (((i + 1 : Nat) : Int), (l.take (i + 1)).map bodyT), [169], ?_, ⟨i + 1, rfl, hlt, rfl⟩, ?_⟩
      · unfold impl_BodiesText_loop0_step
        have c5 : (decide ((List.length ((l.take i).map bodyT) + List.length [bodyT (l.getD i default)]) * 16 ≤ 140737488355328) && decide (List.length ((l.take i).map bodyT) + List.length [bodyT (l.getD i default)] ≤ 9223372036854775807)) = true := by
          rw [Bool.and_eq_true, decide_eq_true_eq, decide_eq_true_eq, List.length_map, List.length_take, List.length_singleton]
          omega
        have e : (l.take (i + 1)).map bodyT = (l.take i).map bodyT ++ [bodyT (l.getD i default)] := by rw [take_snoc hlt default, List.map_append, List.map_singleton]
        simp only [DT.get, nat_dec hlt, nat_ge, Bool.and_self, Int.toNat_natCast, e1, e2, g1, g2, g3, g4, g5, g6, c1, c2, c3, c4, e3, c5, nat_next hlt (Nat.le_trans hl (by decide)), e]
      · show l.length - ((i + 1 : Nat) : Int).toNat < l.length - ((i : Nat) : Int).toNat
        rw [Int.toNat_natCast, Int.toNat_natCast]
        omega
    · have he : i = l.length := Nat.le_antisymm hi hge
      refine ⟨.inr ((l.take i).map bodyT), [0], ?_, ?_⟩
      · unfold impl_BodiesText_loop0_step
        simp only [DT.get, he, nat_not]
      · rw [he, List.take_length]) (0, []) ⟨0, rfl, Nat.zero_le _, rfl⟩

def bodiesT (l : List Body) : List UInt8 × Bool := match okL l with
  | true => (listT bodyT l, true)
  | false => ([], false)

theorem bodiesText_spec (l : List Body) (hl : l.length ≤ 2 ^ 20) (hf : ∀ x ∈ l, x.fits) : spec_BodiesText_need l = true ∧ spec_BodiesText l = bodiesT l := by
  obtain ⟨a1, a2⟩ := l02Are_eq l (by omega)
  obtain ⟨b1, b2⟩ := bodies_spec l hl hf
  have key : (spec_BodiesText_tree l).get = some (bodiesT l) := by
    unfold spec_BodiesText_tree bodiesT
    cases hv : okL l <;> simp only [DT.get, a1, a2, hv, b1, b2, Bool.not_true, Bool.not_false]
  exact DT.of_get key

theorem bodiesText_impl (l : List Body) (hl : l.length ≤ 2 ^ 20) (hf : ∀ x ∈ l, x.fits) : impl_BodiesText_need l = true ∧ impl_BodiesText l = bodiesT l := by
  obtain ⟨a1, a2⟩ := AreBodies_eq l (by omega)
  obtain ⟨b1, b2⟩ := bodies_loop l hl hf
  obtain ⟨s1, s2⟩ := slashed_eq bodyT 62 (by decide) l (fun x _ => by rw [bodyT_length]; exact Nat.le_refl _) hl
  have key : (impl_BodiesText_tree l).get = some (bodiesT l) := by
    unfold impl_BodiesText_tree bodiesT
    cases hv : okL l <;> simp only [DT.get, a1, a2, hv, b1, b2, s1, s2, Bool.not_true, Bool.not_false]
  exact DT.of_get key

theorem plain6 (l : List Body) (hl : l.length ≤ maxLen) (hf : ∀ x ∈ l, x.fits) : laws_FnExactBodiesText_need l = true ∧ laws_FnExactBodiesText l = true := by
  have hz := sz_eq l hl
  have key : (laws_FnExactBodiesText_tree l).get = some true := by
    unfold laws_FnExactBodiesText_tree
    cases hs : decide (l.length ≤ 1048576) with
    | false =>
      rw [hs] at hz
      simp only [DT.get, hz, Bool.not_false]
    | true =>
      rw [hs] at hz
      have hl' : l.length ≤ 2 ^ 20 := of_decide_eq_true hs
      obtain ⟨t1, t2⟩ := toBodyS_eq l (by omega)
      obtain ⟨a1, a2⟩ := bodiesText_spec l hl' hf
      obtain ⟨b1, b2⟩ := bodiesText_impl l hl' hf
      obtain ⟨e1, e2⟩ := eqBodyS_self l (by omega)
      simp only [DT.get, hz, t1, t2, a1, a2, b1, b2, e1, e2, beq_self_eq_true, Bool.not_true]
  exact DT.of_get key

end Go.Proofs.YtcipkfndnkmjlaaDoor
