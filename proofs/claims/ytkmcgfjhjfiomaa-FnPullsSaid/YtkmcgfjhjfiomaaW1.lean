/- The plain law of FnPulls, part 1: finite numbers, bodies, the pull at a place. -/
import Derived.Test.YtkmcgfjhjfiomaaGP
import Derived.Test.YtkmcgfjhjfiomaaEngY
import Derived.Test.YtkmcgfjhjfiomaaPair
import Derived.Test.YtkmcgfjhjfiomaaExact
namespace Go.Proofs.Ytkmcgfjhjfiomaa
set_option linter.unusedVariables false
set_option linter.unusedSimpArgs false

theorem IsFinite_need (x : Nat) : impl_IsFinite_need x = true := by
  unfold impl_IsFinite_need impl_IsFinite_tree
  simp only [DT.ok, fconvOk_up]

theorem math_Abs_eq {x : Nat} (h : isNaN .f64 x = false) : math_Abs x = fabs x := by
  unfold math_Abs math_Abs_tree
  simp only [DT.val, h]
  rfl

theorem impl_finite_eq (x : Nat) : impl_finite x = isNum .f64 x := by
  unfold impl_finite impl_finite_tree
  have h1 : math_IsNaN x = isNaN .f64 x := fne_self .f64 x
  simp only [DT.val, h1]
  cases hn : isNaN .f64 x with
  | true =>
    rcases kinds .f64 x with ⟨s, m, p, hd, h1, h2⟩ | ⟨s, hd, h1, h2⟩ | ⟨s, t, hd, h1, h2⟩
    · rw [h2] at hn; cases hn
    · rw [h2] at hn; cases hn
    · rw [h1]; rfl
  | false =>
    have h2 : math_IsInf x 0 = fgt .f64 (math_Abs x) 9218868437227405311 := rfl
    rw [h2, math_Abs_eq hn, inf_abs hn]
    simp

theorem IsFinite_eq (x : Nat) : impl_IsFinite x = isNum .f32 x := by
  show impl_finite (fconv .f32 x .f64) = _
  rw [impl_finite_eq, isNum_up]

def finV (v : Vec) : Bool := isNum .f32 v.X && isNum .f32 v.Y && isNum .f32 v.Z

def okB (b : Body) : Bool := finV b.At && finV b.Speed && (isNum .f32 b.Mass && fge .f32 b.Mass 0)

theorem areFinite_1_eq (i : Nat) : impl_areFinite_1_need i = true ∧ impl_areFinite_1 i = !isNum .f32 i := by
  unfold impl_areFinite_1_need impl_areFinite_1 impl_areFinite_1_tree
  simp only [DT.ok, DT.val, IsFinite_need, IsFinite_eq]
  exact ⟨trivial, trivial⟩

theorem areFinite_eq (l : List Nat) (hl : l.length ≤ 2 ^ 62) : impl_areFinite_need l = true ∧ impl_areFinite l = l.all (isNum .f32) := by
  obtain ⟨h1, h2⟩ := scan_loop (α := Int) (β := Unit) (step := slices_IndexFunc___float32_float32__impl_areFinite_1_loop0_step (l, ((l.length : Nat) : Int))) l.length (fun i => bif isNum .f32 (l.getD i default) then none else some (i : Int)) () (fun i hi => by
    refine ⟨[], ?_⟩
    unfold slices_IndexFunc___float32_float32__impl_areFinite_1_loop0_step
    simp only [DT.get, nat_dec hi, nat_in hi, (areFinite_1_eq _).1, (areFinite_1_eq _).2, Int.toNat_natCast, nat_next hi hl]
    cases isNum .f32 (l.getD i default) <;> rfl) ⟨[], by
    unfold slices_IndexFunc___float32_float32__impl_areFinite_1_loop0_step
    simp only [DT.get, nat_not]⟩
  have hall := firstOf_all (isNum .f32) (fun i => (i : Int)) default l
  have h1 : slices_IndexFunc___float32_float32__impl_areFinite_1_loop0_ends (l, ((l.length : Nat) : Int)) 0 = true := h1
  have h2 : slices_IndexFunc___float32_float32__impl_areFinite_1_loop0 (l, ((l.length : Nat) : Int)) 0 = _ := h2
  have key : slices_IndexFunc___float32_float32__impl_areFinite_1_need l = true ∧ decide (slices_IndexFunc___float32_float32__impl_areFinite_1 l ≥ 0) = !l.all (isNum .f32) := by
    unfold slices_IndexFunc___float32_float32__impl_areFinite_1_need slices_IndexFunc___float32_float32__impl_areFinite_1 slices_IndexFunc___float32_float32__impl_areFinite_1_tree
    simp only [DT.ok, DT.val, h1, h2]
    rw [← hall]
    cases hf : firstOf (fun i => bif isNum .f32 (l.getD i default) then none else some (i : Int)) l.length with
    | none => constructor <;> first | trivial | rfl
    | some a =>
      have ha : 0 ≤ a := by
        unfold firstOf at hf
        obtain ⟨i, _, hi⟩ := List.exists_of_findSome?_eq_some hf
        cases hq : isNum .f32 (l.getD i default) <;> rw [hq] at hi
        · simp only [cond_false, Option.some.injEq] at hi; omega
        · cases hi
      simp only [isL, leftD]
      exact ⟨trivial, decide_eq_true ha⟩
  have key2 : slices_ContainsFunc___float32_float32__impl_areFinite_1_need l = true ∧ slices_ContainsFunc___float32_float32__impl_areFinite_1 l = !l.all (isNum .f32) := by
    unfold slices_ContainsFunc___float32_float32__impl_areFinite_1_need slices_ContainsFunc___float32_float32__impl_areFinite_1 slices_ContainsFunc___float32_float32__impl_areFinite_1_tree
    simp only [DT.ok, DT.val, key.1, key.2]
    exact ⟨trivial, trivial⟩
  unfold impl_areFinite_need impl_areFinite impl_areFinite_tree
  simp only [DT.ok, DT.val, key2.1, key2.2, Bool.not_not]
  exact ⟨trivial, trivial⟩

theorem isFiniteVector_eq (v : Vec) : impl_isFiniteVector_need v = true ∧ impl_isFiniteVector v = finV v := by
  have h := areFinite_eq [v.X, v.Y, v.Z] (by show 3 ≤ 2 ^ 62; decide)
  have ha : [v.X, v.Y, v.Z].all (isNum .f32) = finV v := by
    unfold finV
    simp only [List.all_cons, List.all_nil, Bool.and_true, Bool.and_assoc]
  have e : impl_Vector_numbers (⟨v.X, v.Y, v.Z⟩ : Vec) = [v.X, v.Y, v.Z] := rfl
  unfold impl_isFiniteVector_need impl_isFiniteVector impl_isFiniteVector_tree
  simp only [DT.ok, DT.val, e, h.1, h.2, ha]
  exact ⟨trivial, trivial⟩

theorem flt_fge {x : Nat} (h : isNum .f32 x = true) : flt .f32 x 0 = !fge .f32 x 0 := by
  have h0 : isNum .f32 0 = true := by decide +kernel
  rw [flt_num h h0, fge_num h h0, ← decide_not, decide_eq_decide]
  omega

theorem AreBodies_1_eq (b : Body) : impl_AreBodies_1_need b = true ∧ impl_AreBodies_1 b = !okB b := by
  unfold impl_AreBodies_1_need impl_AreBodies_1 impl_AreBodies_1_tree okB
  simp only [DT.ok, DT.val, (isFiniteVector_eq _).1, (isFiniteVector_eq _).2, IsFinite_need, IsFinite_eq]
  cases finV b.At <;> cases finV b.Speed <;> first
    | exact ⟨rfl, rfl⟩
    | (cases h : isNum .f32 b.Mass
       · exact ⟨rfl, rfl⟩
       · simp only [Bool.not_true, Bool.true_and, flt_fge h]
         exact ⟨trivial, trivial⟩)

def okL (l : List Body) : Bool := decide (((l.length : Nat) : Int) ≤ 16) && l.all okB

theorem AreBodies_eq (l : List Body) (hl : l.length ≤ 2 ^ 62) : impl_AreBodies_need l = true ∧ impl_AreBodies l = okL l := by
  obtain ⟨h1, h2⟩ := scan_loop (α := Int) (β := Unit) (step := slices_IndexFunc___impl_Body_impl_Body__impl_AreBodies_1_loop0_step (l, ((l.length : Nat) : Int))) l.length (fun i => bif okB (l.getD i default) then none else some (i : Int)) () (fun i hi => by
    refine ⟨[], ?_⟩
    unfold slices_IndexFunc___impl_Body_impl_Body__impl_AreBodies_1_loop0_step
    simp only [DT.get, nat_dec hi, nat_in hi, (AreBodies_1_eq _).1, (AreBodies_1_eq _).2, Int.toNat_natCast, nat_next hi hl]
    cases okB (l.getD i default) <;> rfl) ⟨[], by
    unfold slices_IndexFunc___impl_Body_impl_Body__impl_AreBodies_1_loop0_step
    simp only [DT.get, nat_not]⟩
  have hall := firstOf_all okB (fun i => (i : Int)) default l
  have h1 : slices_IndexFunc___impl_Body_impl_Body__impl_AreBodies_1_loop0_ends (l, ((l.length : Nat) : Int)) 0 = true := h1
  have h2 : slices_IndexFunc___impl_Body_impl_Body__impl_AreBodies_1_loop0 (l, ((l.length : Nat) : Int)) 0 = _ := h2
  have key : slices_IndexFunc___impl_Body_impl_Body__impl_AreBodies_1_need l = true ∧ decide (slices_IndexFunc___impl_Body_impl_Body__impl_AreBodies_1 l ≥ 0) = !l.all okB := by
    unfold slices_IndexFunc___impl_Body_impl_Body__impl_AreBodies_1_need slices_IndexFunc___impl_Body_impl_Body__impl_AreBodies_1 slices_IndexFunc___impl_Body_impl_Body__impl_AreBodies_1_tree
    simp only [DT.ok, DT.val, h1, h2]
    rw [← hall]
    cases hf : firstOf (fun i => bif okB (l.getD i default) then none else some (i : Int)) l.length with
    | none => constructor <;> first | trivial | rfl
    | some a =>
      have ha : 0 ≤ a := by
        unfold firstOf at hf
        obtain ⟨i, _, hi⟩ := List.exists_of_findSome?_eq_some hf
        cases hq : okB (l.getD i default) <;> rw [hq] at hi
        · simp only [cond_false, Option.some.injEq] at hi; omega
        · cases hi
      simp only [isL, leftD]
      exact ⟨trivial, decide_eq_true ha⟩
  have key2 : slices_ContainsFunc___impl_Body_impl_Body__impl_AreBodies_1_need l = true ∧ slices_ContainsFunc___impl_Body_impl_Body__impl_AreBodies_1 l = !l.all okB := by
    unfold slices_ContainsFunc___impl_Body_impl_Body__impl_AreBodies_1_need slices_ContainsFunc___impl_Body_impl_Body__impl_AreBodies_1 slices_ContainsFunc___impl_Body_impl_Body__impl_AreBodies_1_tree
    simp only [DT.ok, DT.val, key.1, key.2]
    exact ⟨trivial, trivial⟩
  unfold impl_AreBodies_need impl_AreBodies impl_AreBodies_tree okL
  simp only [DT.ok, DT.val, key2.1, key2.2, Bool.not_not]
  cases decide (((l.length : Nat) : Int) ≤ 16) <;> constructor <;> first | trivial | rfl

/-! ## The pull at a place -/

/-- Sums from 0 on. -/
def tsum (f : Nat → Rat) : Nat → Rat
  | 0 => 0
  | k + 1 => tsum f k + f k

/-- A sum of k terms, as the program adds them. -/
def AccN (a : Nat) (t : Rat) (k : Nat) : Prop := isNum .f32 a = true ∧ Nr (R .f32 a) t ((k : Rat) * (12 / 1000000)) ∧ Bd t ((k : Rat) * 33)

theorem acc_zero : AccN 0 0 0 := by
  have h : isNum .f32 0 = true ∧ R .f32 0 = 0 := by decide +kernel
  refine ⟨h.1, ?_, ?_⟩
  · rw [h.2]; unfold Nr; constructor <;> simp <;> grind
  · unfold Bd; constructor <;> simp <;> grind

theorem acc_add {a x s k : Nat} {t : Rat} (h : AccN a t k) (hk : k ≤ 4) (hx : isNum .f32 x = true) (hs : isNum .f32 s = true) (hb : Bd (R .f32 x * R .f32 s) 33) : AccN (fadd .f32 a (fmul .f32 x s)) (t + R .f32 x * R .f32 s) (k + 1) := by
  obtain ⟨h1, h2, h3⟩ := h
  have hT := T_pos
  have hT1 := T_le
  have hG := Gr_ge
  have hkr : (k : Rat) ≤ 4 := by exact_mod_cast hk
  have hk0 : (0 : Rat) ≤ k := by exact_mod_cast Nat.zero_le k
  have f1 := fmul_fl hx hs (hb.mono (by grind))
  have e1 := f1.err hb
  have b2 : Bd (R .f32 a + R .f32 (fmul .f32 x s)) 166 := by unfold Nr at h2 e1; unfold Bd at h3 hb ⊢; constructor <;> grind
  have f2 := fadd_fl h1 f1.1 (b2.mono (by grind))
  have e2 := f2.err b2
  refine ⟨f2.1, ?_, ?_⟩
  · push_cast
    unfold Nr at h2 e1 e2 ⊢
    constructor <;> grind
  · push_cast
    unfold Bd at h3 hb ⊢
    constructor <;> grind

/-- What is asked of a body that pulls: the way to it, and its mass. -/
structure PullH (d : Vec) (m : Nat) : Prop where
  x : isNum .f32 d.X = true
  y : isNum .f32 d.Y = true
  z : isNum .f32 d.Z = true
  q : R .f32 d.X * R .f32 d.X + R .f32 d.Y * R .f32 d.Y + R .f32 d.Z * R .f32 d.Z + 1 / 16 ≤ 1000
  n : isNum .f32 m = true
  m1 : 1 / 4 ≤ R .f32 m
  m2 : R .f32 m ≤ 2

def sqV (d : Vec) : Rat := R .f32 d.X * R .f32 d.X + R .f32 d.Y * R .f32 d.Y + R .f32 d.Z * R .f32 d.Z + 1 / 16
def shV (d : Vec) (m : Nat) : Nat := shareN d.X d.Y d.Z m

theorem PullH.pair {d : Vec} {m : Nat} (h : PullH d m) : isNum .f32 (softN d.X d.Y d.Z) = true ∧ 0 < R .f32 (softN d.X d.Y d.Z) ∧ fconvOk .f32 (softN d.X d.Y d.Z) .f64 = true ∧ fconvOk .f64 (fsqrt (fconv .f32 (softN d.X d.Y d.Z) .f64)) .f32 = true ∧ isNum .f32 (shV d m) = true ∧ PairF (sqV d) (R .f32 (rootN (softN d.X d.Y d.Z))) (R .f32 (shV d m)) (R .f32 m) := by
  have m1 := h.m1
  have m2 := h.m2
  exact pair_fl h.x h.y h.z h.n rfl h.q (by grind) (by grind)

theorem PullH.bd {d : Vec} {m : Nat} (h : PullH d m) : Bd (R .f32 d.X * R .f32 (shV d m)) 33 ∧ Bd (R .f32 d.Y * R .f32 (shV d m)) 33 ∧ Bd (R .f32 d.Z * R .f32 (shV d m)) 33 := by
  obtain ⟨_, _, _, _, _, hp⟩ := h.pair
  have sx := sq_nonneg (R .f32 d.X)
  have sy := sq_nonneg (R .f32 d.Y)
  have sz := sq_nonneg (R .f32 d.Z)
  have m2 := h.m2
  have h0 := hp.q0
  have key : ∀ X : Rat, X * X ≤ sqV d → Bd (X * R .f32 (shV d m)) 33 := fun X hX => by
    obtain ⟨k1, k2⟩ := pair_bd hp hX
    constructor
    · rcases Rat.le_total (a := 0) (b := X * R .f32 (shV d m)) with g | g
      · grind
      · have := Rat.mul_le_mul_of_nonneg_left h0 (show 0 ≤ -(X * R .f32 (shV d m)) by grind)
        grind
    · rcases Rat.le_total (a := 0) (b := X * R .f32 (shV d m)) with g | g
      · have := Rat.mul_le_mul_of_nonneg_left h0 g
        grind
      · grind
  refine ⟨key _ ?_, key _ ?_, key _ ?_⟩ <;> unfold sqV <;> grind

theorem RootN_eq {x : Nat} (h1 : fconvOk .f32 x .f64 = true) (h2 : fconvOk .f64 (fsqrt (fconv .f32 x .f64)) .f32 = true) : impl_RootNumber_need x = true ∧ impl_RootNumber x = rootN x := by
  have e : math_Sqrt (fconv .f32 x .f64) = fsqrt (fconv .f32 x .f64) := rfl
  unfold impl_RootNumber_need impl_RootNumber impl_RootNumber_tree
  simp only [DT.ok, DT.val, h1, h2, e]
  exact ⟨trivial, rfl⟩

/-- The way from a place to a body. -/
def wayV (l : List Body) (v : Vec) (j : Nat) : Vec := impl_LessVectors (l.getD j default).At v
/-- A term of a pull: the share times a part of the way. -/
def termV (l : List Body) (v : Vec) (i : Int) (c : Vec → Nat) (j : Nat) : Rat := if (j : Int) = i then 0 else R .f32 (c (wayV l v j)) * R .f32 (shV (wayV l v j) (l.getD j default).Mass)

theorem pull_sum (l : List Body) (hl : l.length ≤ 4) (i : Int) (v : Vec) (H : ∀ j : Nat, j < l.length → (j : Int) ≠ i → PullH (wayV l v j) (l.getD j default).Mass) :
    impl_pull_need l i v 1048576000 = true ∧ AccN (impl_pull l i v 1048576000).X (tsum (termV l v i Vec.X) l.length) l.length ∧ AccN (impl_pull l i v 1048576000).Y (tsum (termV l v i Vec.Y) l.length) l.length ∧ AccN (impl_pull l i v 1048576000).Z (tsum (termV l v i Vec.Z) l.length) l.length := by
  obtain ⟨h1, h2⟩ := loop_post (step := impl_pull_loop0_step (i, 1048576000, l, ((l.length : Nat) : Int), v.X, v.Y, v.Z, 0, 0, 0))
    (fun s => ∃ k : Nat, k ≤ l.length ∧ s.1 = (k : Int) ∧ AccN s.2.1 (tsum (termV l v i Vec.X) k) k ∧ AccN s.2.2.1 (tsum (termV l v i Vec.Y) k) k ∧ AccN s.2.2.2 (tsum (termV l v i Vec.Z) k) k)
    (fun s => (l.length - s.1).toNat)
    (fun r => AccN r.1 (tsum (termV l v i Vec.X) l.length) l.length ∧ AccN r.2.1 (tsum (termV l v i Vec.Y) l.length) l.length ∧ AccN r.2.2 (tsum (termV l v i Vec.Z) l.length) l.length) (by
    rintro ⟨k', a, b, c⟩ ⟨k, hk, rfl, ha, hb, hc⟩
    rcases Nat.lt_or_ge k l.length with hlt | hge
    · have hn : IntKind.wrap .i64 (((k : Nat) : Int) + 1) = ((k + 1 : Nat) : Int) := nat_next hlt (by omega)
      by_cases hi : (k : Int) = i
      · refine ⟨.inl (((k + 1 : Nat) : Int), a, b, c), [0, 1, 2], ?_, ⟨k + 1, hlt, rfl, ?_, ?_, ?_⟩, by show (l.length - ((k + 1 : Nat) : Int)).toNat < (l.length - (k : Int)).toNat; omega⟩
        · have hne : ((k : Int) != i) = false := by simp [hi]
          unfold impl_pull_loop0_step
          simp only [DT.get, nat_dec hlt, nat_ge, Bool.and_true, hne, hn]
        all_goals
          obtain ⟨g1, g2, g3⟩ := (by assumption : AccN _ _ k)
        · obtain ⟨g1, g2, g3⟩ := ha
          refine ⟨g1, ?_, ?_⟩ <;> simp only [tsum, termV, hi, if_true] <;> push_cast
          · unfold Nr at g2 ⊢; constructor <;> grind
          · unfold Bd at g3 ⊢; constructor <;> grind
        · obtain ⟨g1, g2, g3⟩ := hb
          refine ⟨g1, ?_, ?_⟩ <;> simp only [tsum, termV, hi, if_true] <;> push_cast
          · unfold Nr at g2 ⊢; constructor <;> grind
          · unfold Bd at g3 ⊢; constructor <;> grind
        · obtain ⟨g1, g2, g3⟩ := hc
          refine ⟨g1, ?_, ?_⟩ <;> simp only [tsum, termV, hi, if_true] <;> push_cast
          · unfold Nr at g2 ⊢; constructor <;> grind
          · unfold Bd at g3 ⊢; constructor <;> grind
      · have hp := H k hlt hi
        obtain ⟨p1, p2, p3, p4, p5, p6⟩ := hp.pair
        obtain ⟨q1, q2, q3⟩ := hp.bd
        obtain ⟨r1, r2⟩ := RootN_eq p3 p4
        have hz : isNum .f32 0 = true ∧ R .f32 0 = 0 := by decide +kernel
        have hgt : fgt .f32 (softN (wayV l v k).X (wayV l v k).Y (wayV l v k).Z) 0 = true := by
          rw [fgt_R p1 hz.1, hz.2]
          exact decide_eq_true p2
        have hne : ((k : Int) != i) = true := by simp [hi]
        have hsoft : impl_softened (⟨(wayV l v k).X, (wayV l v k).Y, (wayV l v k).Z⟩ : Vec) 1048576000 = softN (wayV l v k).X (wayV l v k).Y (wayV l v k).Z := rfl
        have hway : impl_LessVectors (⟨(l.getD k default).At.X, (l.getD k default).At.Y, (l.getD k default).At.Z⟩ : Vec) (⟨v.X, v.Y, v.Z⟩ : Vec) = wayV l v k := rfl
        refine ⟨.inl (((k + 1 : Nat) : Int), fadd .f32 a (fmul .f32 (wayV l v k).X (shV (wayV l v k) (l.getD k default).Mass)), fadd .f32 b (fmul .f32 (wayV l v k).Y (shV (wayV l v k) (l.getD k default).Mass)), fadd .f32 c (fmul .f32 (wayV l v k).Z (shV (wayV l v k) (l.getD k default).Mass))), [0, 1, 2], ?_, ⟨k + 1, hlt, rfl, ?_, ?_, ?_⟩, by show (l.length - ((k + 1 : Nat) : Int)).toNat < (l.length - (k : Int)).toNat; omega⟩
        · unfold impl_pull_loop0_step
          simp only [DT.get, nat_dec hlt, nat_ge, Bool.and_true, hne, hn, Int.toNat_natCast, hway, hsoft, hgt, r1, r2]
          rfl
        · have := acc_add ha (by omega) hp.x p5 q1
          simpa only [tsum, termV, if_neg hi] using this
        · have := acc_add hb (by omega) hp.y p5 q2
          simpa only [tsum, termV, if_neg hi] using this
        · have := acc_add hc (by omega) hp.z p5 q3
          simpa only [tsum, termV, if_neg hi] using this
    · have hk' : k = l.length := by omega
      subst hk'
      refine ⟨.inr (a, b, c), [1, 2], ?_, ha, hb, hc⟩
      unfold impl_pull_loop0_step
      simp only [DT.get, nat_not]) (0, 0, 0, 0) ⟨0, Nat.zero_le _, rfl, acc_zero, acc_zero, acc_zero⟩
  have h1 : impl_pull_loop0_ends (i, 1048576000, l, ((l.length : Nat) : Int), v.X, v.Y, v.Z, 0, 0, 0) (0, 0, 0, 0) = true := h1
  unfold impl_pull_need impl_pull impl_pull_tree
  simp only [DT.ok, DT.val, h1]
  exact ⟨trivial, h2⟩

end Go.Proofs.Ytkmcgfjhjfiomaa
