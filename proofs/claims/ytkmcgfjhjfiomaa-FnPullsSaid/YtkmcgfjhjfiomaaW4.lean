/- The plain law of FnPulls, part 4: what is drawn. -/
import Derived.Test.YtkmcgfjhjfiomaaW3
namespace Go.Proofs.Ytkmcgfjhjfiomaa
set_option linter.unusedVariables false
set_option linter.unusedSimpArgs false

def Bytes (c : List Int) : Prop := c.length ≤ 1048576 ∧ ∀ x ∈ c, 0 ≤ x ∧ x ≤ 255

theorem Bytes.at {c : List Int} (h : Bytes c) (i : Nat) (hi : i < c.length) : 0 ≤ c.getD i default ∧ c.getD i default ≤ 255 := by
  rw [List.getD_eq_getElem?_getD, List.getElem?_eq_getElem hi]
  exact h.2 _ (List.getElem_mem hi)

theorem and255 (y : Int) : 0 ≤ IntKind.wrap .i64 (IntKind.wrap .u64 ((BitVec.ofInt (IntKind.bits .u64) y &&& BitVec.ofInt (IntKind.bits .u64) 255).toNat : Int)) ∧ IntKind.wrap .i64 (IntKind.wrap .u64 ((BitVec.ofInt (IntKind.bits .u64) y &&& BitVec.ofInt (IntKind.bits .u64) 255).toNat : Int)) ≤ 255 := by
  have h : (BitVec.ofInt (IntKind.bits .u64) y &&& BitVec.ofInt (IntKind.bits .u64) 255).toNat ≤ 255 := by
    rw [BitVec.toNat_and]
    exact Nat.le_trans Nat.and_le_right (by decide)
  generalize (BitVec.ofInt (IntKind.bits .u64) y &&& BitVec.ofInt (IntKind.bits .u64) 255).toNat = t at *
  have e : IntKind.wrap .u64 ((t : Nat) : Int) = ((t : Nat) : Int) := by
    show ((t : Nat) : Int) % 18446744073709551616 = _
    omega
  rw [e, wrap_small (by omega) (by omega)]
  omega

theorem next_ok {c : List Int} (hc : Bytes c) {a : Int} (s : Int) (h0 : 0 ≤ a) (h1 : a ≤ 2 ^ 40) : ∃ v s', (spec_l00Src_next_tree c a s).get = some (v, a + 1, s') ∧ 0 ≤ v ∧ v ≤ 255 := by
  have hl := hc.1
  have hw : IntKind.wrap .i64 (a + 1) = a + 1 := wrap_small (by omega) (by omega)
  unfold spec_l00Src_next_tree
  simp only [hw]
  by_cases hlt : a < ((c.length : Nat) : Int)
  · have d1 : decide (a < ((c.length : Nat) : Int)) = true := decide_eq_true hlt
    have d2 : decide (0 ≤ a) = true := decide_eq_true h0
    have d3 : decide (a + 1 ≤ ((c.length : Nat) : Int)) = true := decide_eq_true (by omega)
    have hb := hc.at a.toNat (by omega)
    simp only [DT.get, d1, d2, d3, Bool.and_true]
    refine ⟨_, _, rfl, ?_⟩
    rw [wrap_small (by omega) (by omega)]
    exact hb
  · have d1 : decide (a < ((c.length : Nat) : Int)) = false := decide_eq_false hlt
    have d3 : decide (a + 1 ≤ ((c.length : Nat) : Int)) = false := decide_eq_false (by omega)
    simp only [DT.get, d1, d3]
    exact ⟨_, _, rfl, and255 _⟩

theorem next_eq {c : List Int} (hc : Bytes c) {a : Int} (s : Int) (h0 : 0 ≤ a) (h1 : a ≤ 2 ^ 40) : ∃ v s', spec_l00Src_next_need c a s = true ∧ spec_l00Src_next c a s = (v, a + 1, s') ∧ 0 ≤ v ∧ v ≤ 255 := by
  obtain ⟨v, s', h, hv⟩ := next_ok hc s h0 h1
  obtain ⟨k1, k2⟩ := DT.of_get h
  exact ⟨v, s', k1, k2, hv⟩

theorem pick_eq {c : List Int} (hc : Bytes c) {a : Int} (s : Int) {n : Int} (h0 : 0 ≤ a) (h1 : a ≤ 2 ^ 39) (hn : 2 ≤ n) (hn2 : n ≤ 2 ^ 40) :
    ∃ v a' s', spec_l00Src_pick_need c a s n = true ∧ spec_l00Src_pick c a s n = (v, a', s') ∧ 0 ≤ v ∧ v < n ∧ a ≤ a' ∧ a' ≤ a + 2 := by
  obtain ⟨v, s1, n1, n2, hv0, hv1⟩ := next_eq hc s h0 (by omega)
  have d1 : decide (n ≤ 1) = false := decide_eq_false (by omega)
  have d3 : (n != 0) = true := by simp; omega
  have key : ∃ v a' s', (spec_l00Src_pick_tree c a s n).get = some (v, a', s') ∧ 0 ≤ v ∧ v < n ∧ a ≤ a' ∧ a' ≤ a + 2 := by
    unfold spec_l00Src_pick_tree
    by_cases hg : n > 200
    · have d2 : decide (n > 200) = true := decide_eq_true hg
      obtain ⟨v2, s2, m1, m2, hw0, hw1⟩ := next_eq hc s1 (a := a + 1) (by omega) (by omega)
      simp only [DT.get, d1, n1, n2, d2, m1, m2, d3]
      refine ⟨_, _, _, rfl, ?_, ?_, by omega, by omega⟩
      · rw [wrap_small (n := v * 256) (by omega) (by omega), wrap_small (by omega) (by omega)]
        exact Int.tmod_nonneg _ (by omega)
      · exact Int.tmod_lt_of_pos _ (by omega)
    · have d2 : decide (n > 200) = false := decide_eq_false hg
      simp only [DT.get, d1, n1, n2, d2, d3]
      exact ⟨_, _, _, rfl, Int.tmod_nonneg _ hv0, Int.tmod_lt_of_pos _ (by omega), by omega, by omega⟩
  obtain ⟨v, a', s', h, hv⟩ := key
  obtain ⟨k1, k2⟩ := DT.of_get h
  exact ⟨v, a', s', k1, k2, hv⟩

theorem fin_of {v : Int} {n : Nat} (h0 : 0 ≤ v) (h1 : v < (n : Int)) : ∃ k : Fin n, v = (k.val : Int) := ⟨⟨v.toNat, by omega⟩, by show v = ((v.toNat : Nat) : Int); omega⟩

/-! ## Numbers in quarters -/

/-- A number that is n quarters. -/
def Qt (x : Nat) (n : Int) : Prop := Wh .f32 (-2) x n

instance (x : Nat) (n : Int) : Decidable (Qt x n) := inferInstanceAs (Decidable (_ ∧ _))

theorem Qt.add {x y : Nat} {m n : Int} (hx : Qt x m) (hy : Qt y n) (h : (m + n).natAbs < 16777216) : Qt (fadd .f32 x y) (m + n) := add_at (k := .f32) (by decide) (by decide) hx hy h
theorem Qt.sub {x y : Nat} {m n : Int} (hx : Qt x m) (hy : Qt y n) (h : (m - n).natAbs < 16777216) : Qt (fsub .f32 x y) (m - n) := sub_at (k := .f32) (by decide) (by decide) hx hy h
theorem Qt.R {x : Nat} {n : Int} (h : Qt x n) : R .f32 x = (n : Rat) / 4 := by
  obtain ⟨h1, h2⟩ := h
  rw [R_V h1, h2]
  have e : ((2 ^ (-2 - lplace .f32).toNat : Nat) : Rat) * 2 ^ lplace .f32 = 1 / 4 := by decide +kernel
  rw [show ((n * ((2 ^ (-2 - lplace .f32).toNat : Nat) : Int) : Int) : Rat) = (n : Rat) * ((2 ^ (-2 - lplace .f32).toNat : Nat) : Rat) from by push_cast; rfl]
  grind
theorem Qt.num {x : Nat} {n : Int} (h : Qt x n) : isNum .f32 x = true := h.1

theorem q_y : ∀ k : Fin 9, Qt (fdiv .f32 (fofInt .f32 (IntKind.wrap .i64 ((k.val : Int) - 4))) 1082130432) ((k.val : Int) - 4) := by decide +kernel
theorem q_x : ∀ k : Fin 3, Qt (fofInt .f32 (IntKind.wrap .i64 (1 + (k.val : Int)))) (4 + 4 * (k.val : Int)) := by decide +kernel
theorem q_m : ∀ k : Fin 8, Qt (fdiv .f32 (fofInt .f32 (IntKind.wrap .i64 (1 + (k.val : Int)))) 1082130432) (1 + (k.val : Int)) ∧ fge .f32 (fdiv .f32 (fofInt .f32 (IntKind.wrap .i64 (1 + (k.val : Int)))) 1082130432) 0 = true := by decide +kernel
theorem q_v : ∀ k : Fin 9, Qt (fofInt .f32 (IntKind.wrap .i64 ((k.val : Int) - 4))) (4 * ((k.val : Int) - 4)) := by decide +kernel

theorem quarter_bd {n : Int} {M : Int} (h1 : n ≤ M) (h2 : -M ≤ n) : Bd ((n : Rat) / 4) ((M : Rat) / 4) := by
  have a : (n : Rat) ≤ M := by exact_mod_cast h1
  have b : ((-M : Int) : Rat) ≤ n := by exact_mod_cast h2
  push_cast at b
  unfold Bd
  constructor <;> grind

/-! ## The bodies that are drawn -/

/-- A body at a place in quarters, with a mass in quarters. -/
structure QBody (b : Body) (n p q m : Int) : Prop where
  x : Qt b.At.X n
  y : Qt b.At.Y p
  y4 : p.natAbs ≤ 4
  z : Qt b.At.Z q
  z4 : q.natAbs ≤ 4
  w : Qt b.Mass m
  m1 : 1 ≤ m
  m8 : m ≤ 8
  ok : okB b = true
  v : Bd (R .f32 b.Speed.X) 1 ∧ Bd (R .f32 b.Speed.Y) 1 ∧ Bd (R .f32 b.Speed.Z) 1

/-- Bodies that are drawn, so far: one behind the other. -/
def Drawn (l : List Body) (nx : Int) : Prop :=
  -20 + 4 * (l.length : Int) ≤ nx ∧ nx ≤ -20 + 12 * (l.length : Int) ∧ ∃ f : Nat → Int × Int × Int × Int, (∀ j, j < l.length → QBody (l.getD j default) (f j).1 (f j).2.1 (f j).2.2.1 (f j).2.2.2 ∧ -16 ≤ (f j).1 ∧ (f j).1 ≤ nx) ∧ ∀ i j, i < j → j < l.length → (f i).1 + 4 ≤ (f j).1

theorem getD_app {α : Type} {l : List α} {b d : α} : (∀ j, j < l.length → (l ++ [b]).getD j d = l.getD j d) ∧ (l ++ [b]).getD l.length d = b := by
  constructor
  · intro j hj
    rw [List.getD_eq_getElem?_getD, List.getD_eq_getElem?_getD, List.getElem?_append_left hj]
  · rw [List.getD_eq_getElem?_getD, List.getElem?_append_right (Nat.le_refl _)]
    simp

theorem drawn_next {l : List Body} {nx n p q m : Int} {b : Body} (h : Drawn l nx) (hb : QBody b n p q m) (h1 : nx + 4 ≤ n) (h2 : n ≤ nx + 12) : Drawn (l ++ [b]) n := by
  obtain ⟨a1, a2, f, a3, a4⟩ := h
  obtain ⟨g1, g2⟩ := getD_app (l := l) (b := b) (d := default)
  unfold Drawn
  rw [List.length_append, List.length_singleton]
  refine ⟨by push_cast; omega, by push_cast; omega, fun j => if j < l.length then f j else (n, p, q, m), ?_, ?_⟩
  · intro j hj
    by_cases hlt : j < l.length
    · simp only [if_pos hlt]
      rw [g1 j hlt]
      obtain ⟨c1, c2, c3⟩ := a3 j hlt
      exact ⟨c1, c2, by omega⟩
    · have : j = l.length := by omega
      subst this
      simp only [if_neg hlt]
      rw [g2]
      exact ⟨hb, by omega, by omega⟩
  · intro i j hij hj
    by_cases hlt : j < l.length
    · simp only [if_pos hlt, if_pos (Nat.lt_trans hij hlt)]
      exact a4 i j hij hlt
    · simp only [if_neg hlt]
      have hi : i < l.length := by omega
      simp only [if_pos hi]
      have := (a3 i hi).2.2
      show (f i).1 + 4 ≤ n
      omega

theorem bodies_eq {c : List Int} (hc : Bytes c) (n : Nat) (hn : n ≤ 4) : spec_R8Bodies_need c ((n : Nat) : Int) = true ∧ (spec_R8Bodies c ((n : Nat) : Int)).length = n ∧ ∃ nx, Drawn (spec_R8Bodies c ((n : Nat) : Int)) nx := by
  obtain ⟨h1, h2⟩ := loop_post (step := spec_R8Bodies_loop0_step c)
    (fun s => 0 ≤ s.1 ∧ s.1 + (s.2.2.2.2.length : Int) = (n : Int) ∧ 0 ≤ s.2.2.1 ∧ s.2.2.1 ≤ 20 * (s.2.2.2.2.length : Int) ∧ ∃ nx, Qt s.2.1 nx ∧ Drawn s.2.2.2.2 nx)
    (fun s => s.1.toNat)
    (fun r => r.length = n ∧ ∃ nx, Drawn r nx) (by
    rintro ⟨k, x, a, sd, l⟩ ⟨p1, p2, p3, p4, nx, p5, p6⟩
    simp only at p1 p2 p3 p4 p5 p6
    by_cases hk : k > 0
    · have hd : decide (k > 0) = true := decide_eq_true hk
      obtain ⟨v1, a1, s1, m1, e1, l1, u1, q1, r1⟩ := pick_eq hc sd (a := a) (n := 3) (by omega) (by omega) (by omega) (by omega)
      obtain ⟨v2, a2, s2, m2, e2, l2, u2, q2, r2⟩ := pick_eq hc s1 (a := a1) (n := 9) (by omega) (by omega) (by omega) (by omega)
      obtain ⟨v3, a3, s3, m3, e3, l3, u3, q3, r3⟩ := pick_eq hc s2 (a := a2) (n := 9) (by omega) (by omega) (by omega) (by omega)
      obtain ⟨v4, a4, s4, m4, e4, l4, u4, q4, r4⟩ := pick_eq hc s3 (a := a3) (n := 9) (by omega) (by omega) (by omega) (by omega)
      obtain ⟨v5, a5, s5, m5, e5, l5, u5, q5, r5⟩ := pick_eq hc s4 (a := a4) (n := 9) (by omega) (by omega) (by omega) (by omega)
      obtain ⟨v6, a6, s6, m6, e6, l6, u6, q6, r6⟩ := pick_eq hc s5 (a := a5) (n := 9) (by omega) (by omega) (by omega) (by omega)
      obtain ⟨v7, a7, s7, m7, e7, l7, u7, q7, r7⟩ := pick_eq hc s6 (a := a6) (n := 8) (by omega) (by omega) (by omega) (by omega)
      obtain ⟨k1, rfl⟩ := fin_of (n := 3) l1 u1
      obtain ⟨k2, rfl⟩ := fin_of (n := 9) l2 u2
      obtain ⟨k3, rfl⟩ := fin_of (n := 9) l3 u3
      obtain ⟨k4, rfl⟩ := fin_of (n := 9) l4 u4
      obtain ⟨k5, rfl⟩ := fin_of (n := 9) l5 u5
      obtain ⟨k6, rfl⟩ := fin_of (n := 9) l6 u6
      obtain ⟨k7, rfl⟩ := fin_of (n := 8) l7 u7
      have b1 := k1.isLt
      have b2 := k2.isLt
      have b3 := k3.isLt
      have b4 := k4.isLt
      have b5 := k5.isLt
      have b6 := k6.isLt
      have b7 := k7.isLt
      have f1 := q_x k1
      have f2 := q_y k2
      have f3 := q_y k3
      have f4 := q_y k4
      have f5 := q_y k5
      have f6 := q_y k6
      obtain ⟨f7, f8⟩ := q_m k7
      have hlen : (l.length : Int) ≤ 4 := by omega
      have d1 := p6.1
      have d2 := p6.2.1
      have g1 := p5.add f1 (by omega)
      generalize hX : fadd .f32 x (fofInt .f32 (IntKind.wrap .i64 (1 + (k1.val : Int)))) = X at *
      generalize hY : fdiv .f32 (fofInt .f32 (IntKind.wrap .i64 ((k2.val : Int) - 4))) 1082130432 = Y at *
      generalize hZ : fdiv .f32 (fofInt .f32 (IntKind.wrap .i64 ((k3.val : Int) - 4))) 1082130432 = Z at *
      generalize hA : fdiv .f32 (fofInt .f32 (IntKind.wrap .i64 ((k4.val : Int) - 4))) 1082130432 = A at *
      generalize hB : fdiv .f32 (fofInt .f32 (IntKind.wrap .i64 ((k5.val : Int) - 4))) 1082130432 = B at *
      generalize hC : fdiv .f32 (fofInt .f32 (IntKind.wrap .i64 ((k6.val : Int) - 4))) 1082130432 = C at *
      generalize hM : fdiv .f32 (fofInt .f32 (IntKind.wrap .i64 (1 + (k7.val : Int)))) 1082130432 = M at *
      have hroom : (decide ((List.length l + 1) * 28 ≤ 140737488355328) && decide (List.length l + 1 ≤ 9223372036854775807)) = true := room (by omega) (by decide)
      have hb : QBody ⟨⟨X, Y, Z⟩, ⟨A, B, C⟩, M⟩ (nx + (4 + 4 * (k1.val : Int))) ((k2.val : Int) - 4) ((k3.val : Int) - 4) (1 + (k7.val : Int)) :=
        ⟨g1, f2, by omega, f3, by omega, f7, by omega, by omega, by
          unfold okB finV
          simp only [g1.num, f2.num, f3.num, f4.num, f5.num, f6.num, f7.num, f8, Bool.and_true],
          by rw [f4.R]; exact (quarter_bd (M := 4) (by omega) (by omega)).mono (by decide +kernel), by rw [f5.R]; exact (quarter_bd (M := 4) (by omega) (by omega)).mono (by decide +kernel), by rw [f6.R]; exact (quarter_bd (M := 4) (by omega) (by omega)).mono (by decide +kernel)⟩
      refine ⟨.inl (IntKind.wrap .i64 (k - 1), X, a7, s7, l ++ [⟨⟨X, Y, Z⟩, ⟨A, B, C⟩, M⟩]), [0, 490], ?_, ?_, ?_⟩
      · unfold spec_R8Bodies_loop0_step
        simp only [DT.get, hd, m1, e1, m2, e2, m3, e3, m4, e4, m5, e5, m6, e6, m7, e7, hX, hY, hZ, hA, hB, hC, hM, List.length_singleton, hroom]
      · rw [wrap_small (by omega) (by omega)]
        refine ⟨by show 0 ≤ k - 1; omega, ?_, by show 0 ≤ a7; omega, ?_, _, g1, drawn_next p6 hb (by omega) (by omega)⟩
        · show k - 1 + ((l ++ [_]).length : Int) = n
          rw [List.length_append, List.length_singleton]
          push_cast
          omega
        · show a7 ≤ 20 * ((l ++ [_]).length : Int)
          rw [List.length_append, List.length_singleton]
          push_cast
          omega
      · show (IntKind.wrap .i64 (k - 1)).toNat < k.toNat
        rw [wrap_small (by omega) (by omega)]
        omega
    · have hd : decide (k > 0) = false := decide_eq_false hk
      refine ⟨.inr l, [1], ?_, ?_, nx, p6⟩
      · unfold spec_R8Bodies_loop0_step
        simp only [DT.get, hd]
      · omega) (((n : Nat) : Int), 3231711232, 0, 0, []) ⟨by simp, by simp, by simp, by simp, -20, (by decide +kernel : Qt 3231711232 (-20)), by
        refine ⟨by simp, by simp, fun _ => (0, 0, 0, 0), fun j hj => absurd hj (Nat.not_lt_zero _), fun i j _ hj => absurd hj (Nat.not_lt_zero _)⟩⟩
  have h1 : spec_R8Bodies_loop0_ends c (((n : Nat) : Int), 3231711232, 0, 0, []) = true := h1
  unfold spec_R8Bodies_need spec_R8Bodies spec_R8Bodies_tree
  simp only [DT.ok, DT.val, h1]
  exact ⟨trivial, h2⟩

/-! ## Vectors of small integers -/

def SmallI (x : Nat) : Prop := ∃ n : Int, n.natAbs ≤ 16 ∧ Qt x n

theorem small_of {v : Int} (h0 : 0 ≤ v) (h1 : v ≤ 255) : SmallI (fofInt .f32 (IntKind.wrap .i64 (Int.tmod (IntKind.wrap .i64 v) 9 - 4))) := by
  rw [wrap_small (n := v) (by omega) (by omega)]
  have t0 := Int.tmod_nonneg 9 h0
  have t1 := Int.tmod_lt_of_pos v (show (0 : Int) < 9 by decide)
  obtain ⟨k, hk⟩ := fin_of (n := 9) t0 t1
  rw [hk]
  have := k.isLt
  exact ⟨_, by omega, q_v k⟩

theorem small_dflt : SmallI 1065353216 ∧ SmallI 1073741824 ∧ SmallI 3212836864 :=
  ⟨⟨4, by decide, by decide +kernel⟩, ⟨8, by decide, by decide +kernel⟩, ⟨-4, by decide, by decide +kernel⟩⟩

theorem vector_eq {c : List Int} (hc : Bytes c) (a : Int) (h0 : 0 ≤ a) (h1 : a ≤ 100) : spec_R8Vector_need c a = true ∧ SmallI (spec_R8Vector c a).X ∧ SmallI (spec_R8Vector c a).Y ∧ SmallI (spec_R8Vector c a).Z := by
  obtain ⟨z1, z2, z3⟩ := small_dflt
  have w0 : IntKind.wrap .i64 (a + 0) = a := by rw [Int.add_zero]; exact wrap_small (by omega) (by omega)
  have w1 : IntKind.wrap .i64 (a + 1) = a + 1 := wrap_small (by omega) (by omega)
  have w2 : IntKind.wrap .i64 (a + 2) = a + 2 := wrap_small (by omega) (by omega)
  have d0 : decide (0 ≤ a) = true := decide_eq_true h0
  have d1 : decide (0 ≤ a + 1) = true := decide_eq_true (by omega)
  have d2 : decide (0 ≤ a + 2) = true := decide_eq_true (by omega)
  have at' : ∀ b : Int, 0 ≤ b → b < ((c.length : Nat) : Int) → SmallI (fofInt .f32 (IntKind.wrap .i64 (Int.tmod (IntKind.wrap .i64 (List.getD c b.toNat default)) 9 - 4))) := fun b hb1 hb2 => by
    have := hc.at b.toNat (by omega)
    exact small_of this.1 this.2
  have key : ∃ v, (spec_R8Vector_tree c a).get = some v ∧ SmallI v.X ∧ SmallI v.Y ∧ SmallI v.Z := by
    unfold spec_R8Vector_tree
    by_cases g0 : a < ((c.length : Nat) : Int)
    · have s0 := at' a h0 g0
      by_cases g1 : a + 1 < ((c.length : Nat) : Int)
      · have s1 := at' (a + 1) (by omega) g1
        by_cases g2 : a + 2 < ((c.length : Nat) : Int)
        · have s2 := at' (a + 2) (by omega) g2
          simp only [w0, w1, w2, d0, d1, d2, decide_eq_true g0, decide_eq_true g1, decide_eq_true g2, Bool.and_true]
          simp only [DT.get]
          exact ⟨_, rfl, s0, s1, s2⟩
        · simp only [w0, w1, w2, d0, d1, d2, decide_eq_true g0, decide_eq_true g1, decide_eq_false g2, Bool.and_true]
          simp only [DT.get]
          exact ⟨_, rfl, s0, s1, z3⟩
      · by_cases g2 : a + 2 < ((c.length : Nat) : Int)
        · omega
        · simp only [w0, w1, w2, d0, d1, d2, decide_eq_true g0, decide_eq_false g1, decide_eq_false g2, Bool.and_true]
          simp only [DT.get]
          exact ⟨_, rfl, s0, z2, z3⟩
    · have g1 : ¬ a + 1 < ((c.length : Nat) : Int) := by omega
      have g2 : ¬ a + 2 < ((c.length : Nat) : Int) := by omega
      simp only [w0, w1, w2, d0, d1, d2, decide_eq_false g0, decide_eq_false g1, decide_eq_false g2, Bool.and_true]
      simp only [DT.get]
      exact ⟨_, rfl, z1, z2, z3⟩
  obtain ⟨v, h, hv⟩ := key
  obtain ⟨k1, k2⟩ := DT.of_get h
  have k2 : spec_R8Vector c a = v := k2
  rw [k2]
  exact ⟨k1, hv⟩

theorem at_eq {c : List Int} (hc : Bytes c) (k n : Int) (h0 : 0 ≤ k) (hn : 2 ≤ n) (hn2 : n ≤ 1000) : laws_r8At_need c k n = true ∧ 0 ≤ laws_r8At c k n ∧ laws_r8At c k n < n := by
  have d1 : decide (n ≤ 1) = false := decide_eq_false (by omega)
  have d2 : decide (0 ≤ k) = true := decide_eq_true h0
  have d3 : (n != 0) = true := by simp; omega
  have key : ∃ v, (laws_r8At_tree c k n).get = some v ∧ 0 ≤ v ∧ v < n := by
    unfold laws_r8At_tree
    by_cases g : k < ((c.length : Nat) : Int)
    · have g1 : decide (k ≥ ((c.length : Nat) : Int)) = false := decide_eq_false (by omega)
      have hb := hc.at k.toNat (by omega)
      simp only [DT.get, d1, g1, d2, decide_eq_true g, d3, Bool.and_true]
      rw [wrap_small (by omega) (by omega)]
      exact ⟨_, rfl, Int.tmod_nonneg _ hb.1, Int.tmod_lt_of_pos _ (by omega)⟩
    · have g1 : decide (k ≥ ((c.length : Nat) : Int)) = true := decide_eq_true (by omega)
      simp only [DT.get, d1, g1]
      exact ⟨_, rfl, by omega, by omega⟩
  obtain ⟨v, h, hv⟩ := key
  obtain ⟨k1, k2⟩ := DT.of_get h
  have k2 : laws_r8At c k n = v := k2
  rw [k2]
  exact ⟨k1, hv⟩

end Go.Proofs.Ytkmcgfjhjfiomaa
