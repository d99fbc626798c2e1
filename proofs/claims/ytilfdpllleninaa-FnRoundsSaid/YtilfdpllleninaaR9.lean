/- The plain law of FnRounds, part 9: what is drawn, the law. -/
import Derived.Test.YtilfdpllleninaaR8
import Derived.Test.YtilfdpllleninaaR3
import Derived.Test.YtilfdpllleninaaGR
namespace Go.Proofs.Ytilfdpllleninaa
open Ieee
set_option linter.unusedVariables false
set_option linter.unusedSimpArgs false

def Bytes (c : List Int) : Prop := c.length ≤ 1048576 ∧ ∀ x ∈ c, 0 ≤ x ∧ x ≤ 255

theorem Bytes.at {c : List Int} (h : Bytes c) (i : Nat) (hi : i < c.length) : 0 ≤ c.getD i default ∧ c.getD i default ≤ 255 := by
  rw [List.getD_eq_getElem?_getD, List.getElem?_eq_getElem hi]
  exact h.2 _ (List.getElem_mem hi)

theorem and255 (y : Int) : 0 ≤ IntKind.wrap .i64 (IntKind.wrap .u64 ((BitVec.ofInt (IntKind.bits .u64) y &&& BitVec.ofInt (IntKind.bits .u64) 255).toNat : Int)) ∧ IntKind.wrap .i64 (IntKind.wrap .u64 ((BitVec.ofInt (IntKind.bits .u64) y &&& BitVec.ofInt (IntKind.bits .u64) 255).toNat : Int)) ≤ 255 := by
  have h : (BitVec.ofInt (IntKind.bits .u64) y &&& BitVec.ofInt (IntKind.bits .u64) 255).toNat ≤ 255 := by
    rw [BitVec.toNat_and]
    exact Nat.le_trans Nat.and_le_right (by decide)
  generalize (BitVec.ofInt (IntKind.bits .u64) y &&& BitVec.ofInt (IntKind.bits .u64) 255).toNat = t at *
  have e : IntKind.wrap .u64 ((t : Nat) : Int) = ((t : Nat) : Int) := by
    show ((t : Nat) : Int) % 18446744073709551616 = _
    omega
  rw [e, wrap_small (by omega) (by omega)]
  omega

theorem next_ok {c : List Int} (hc : Bytes c) {a : Int} (s : Int) (h0 : 0 ≤ a) (h1 : a ≤ 2 ^ 40) : ∃ v s', (spec_l00Src_next_tree c a s).get = some (v, a + 1, s') ∧ 0 ≤ v ∧ v ≤ 255 := by
  have hl := hc.1
  have hw : IntKind.wrap .i64 (a + 1) = a + 1 := wrap_small (by omega) (by omega)
  unfold spec_l00Src_next_tree
  simp only [hw]
  by_cases hlt : a < ((c.length : Nat) : Int)
  · have d1 : decide (a < ((c.length : Nat) : Int)) = true := decide_eq_true hlt
    have d2 : decide (0 ≤ a) = true := decide_eq_true h0
    have d3 : decide (a + 1 ≤ ((c.length : Nat) : Int)) = true := decide_eq_true (by omega)
    have hb := hc.at a.toNat (by omega)
    simp only [DT.get, d1, d2, d3, Bool.and_true]
    refine ⟨_, _, rfl, ?_⟩
    rw [wrap_small (by omega) (by omega)]
    exact hb
  · have d1 : decide (a < ((c.length : Nat) : Int)) = false := decide_eq_false hlt
    have d3 : decide (a + 1 ≤ ((c.length : Nat) : Int)) = false := decide_eq_false (by omega)
    simp only [DT.get, d1, d3]
    exact ⟨_, _, rfl, and255 _⟩

theorem next_eq {c : List Int} (hc : Bytes c) {a : Int} (s : Int) (h0 : 0 ≤ a) (h1 : a ≤ 2 ^ 40) : ∃ v s', spec_l00Src_next_need c a s = true ∧ spec_l00Src_next c a s = (v, a + 1, s') ∧ 0 ≤ v ∧ v ≤ 255 := by
  obtain ⟨v, s', h, hv⟩ := next_ok hc s h0 h1
  obtain ⟨k1, k2⟩ := DT.of_get h
  exact ⟨v, s', k1, k2, hv⟩

theorem pick_eq {c : List Int} (hc : Bytes c) {a : Int} (s : Int) {n : Int} (h0 : 0 ≤ a) (h1 : a ≤ 2 ^ 39) (hn : 2 ≤ n) (hn2 : n ≤ 2 ^ 40) :
    ∃ v a' s', spec_l00Src_pick_need c a s n = true ∧ spec_l00Src_pick c a s n = (v, a', s') ∧ 0 ≤ v ∧ v < n ∧ a ≤ a' ∧ a' ≤ a + 2 := by
  obtain ⟨v, s1, n1, n2, hv0, hv1⟩ := next_eq hc s h0 (by omega)
  have d1 : decide (n ≤ 1) = false := decide_eq_false (by omega)
  have d3 : (n != 0) = true := by simp; omega
  have key : ∃ v a' s', (spec_l00Src_pick_tree c a s n).get = some (v, a', s') ∧ 0 ≤ v ∧ v < n ∧ a ≤ a' ∧ a' ≤ a + 2 := by
    unfold spec_l00Src_pick_tree
    by_cases hg : n > 200
    · have d2 : decide (n > 200) = true := decide_eq_true hg
      obtain ⟨v2, s2, m1, m2, hw0, hw1⟩ := next_eq hc s1 (a := a + 1) (by omega) (by omega)
      simp only [DT.get, d1, n1, n2, d2, m1, m2, d3]
      refine ⟨_, _, _, rfl, ?_, ?_, by omega, by omega⟩
      · rw [wrap_small (n := v * 256) (by omega) (by omega), wrap_small (by omega) (by omega)]
        exact Int.tmod_nonneg _ (by omega)
      · exact Int.tmod_lt_of_pos _ (by omega)
    · have d2 : decide (n > 200) = false := decide_eq_false hg
      simp only [DT.get, d1, n1, n2, d2, d3]
      exact ⟨_, _, _, rfl, Int.tmod_nonneg _ hv0, Int.tmod_lt_of_pos _ (by omega), by omega, by omega⟩
  obtain ⟨v, a', s', h, hv⟩ := key
  obtain ⟨k1, k2⟩ := DT.of_get h
  exact ⟨v, a', s', k1, k2, hv⟩

theorem fin_of {v : Int} {n : Nat} (h0 : 0 ≤ v) (h1 : v < (n : Int)) : ∃ k : Fin n, v = (k.val : Int) := ⟨⟨v.toNat, by omega⟩, by show v = ((v.toNat : Nat) : Int); omega⟩

def Qt (x : Nat) (n : Int) : Prop := Wh .f32 (-2) x n

instance (x : Nat) (n : Int) : Decidable (Qt x n) := inferInstanceAs (Decidable (_ ∧ _))

theorem Qt.add {x y : Nat} {m n : Int} (hx : Qt x m) (hy : Qt y n) (h : (m + n).natAbs < 16777216) : Qt (fadd .f32 x y) (m + n) := add_at (k := .f32) (by decide) (by decide) hx hy h

theorem Qt.R {x : Nat} {n : Int} (h : Qt x n) : R .f32 x = (n : Rat) / 4 := by
  obtain ⟨h1, h2⟩ := h
  rw [R_V h1, h2]
  have e : ((2 ^ (-2 - lplace .f32).toNat : Nat) : Rat) * 2 ^ lplace .f32 = 1 / 4 := by decide +kernel
  rw [show ((n * ((2 ^ (-2 - lplace .f32).toNat : Nat) : Int) : Int) : Rat) = (n : Rat) * ((2 ^ (-2 - lplace .f32).toNat : Nat) : Rat) from by push_cast; rfl]
  grind

theorem Qt.num {x : Nat} {n : Int} (h : Qt x n) : isNum .f32 x = true := h.1

theorem q_y : ∀ k : Fin 9, Qt (fdiv .f32 (fofInt .f32 (IntKind.wrap .i64 ((k.val : Int) - 4))) 1082130432) ((k.val : Int) - 4) := by decide +kernel

theorem q_x : ∀ k : Fin 3, Qt (fofInt .f32 (IntKind.wrap .i64 (1 + (k.val : Int)))) (4 + 4 * (k.val : Int)) := by decide +kernel

theorem q_m : ∀ k : Fin 8, Qt (fdiv .f32 (fofInt .f32 (IntKind.wrap .i64 (1 + (k.val : Int)))) 1082130432) (1 + (k.val : Int)) ∧ fge .f32 (fdiv .f32 (fofInt .f32 (IntKind.wrap .i64 (1 + (k.val : Int)))) 1082130432) 0 = true := by decide +kernel

theorem quarter_bd {n : Int} {M : Int} (h1 : n ≤ M) (h2 : -M ≤ n) : Bd ((n : Rat) / 4) ((M : Rat) / 4) := by
  have a : (n : Rat) ≤ M := by exact_mod_cast h1
  have b : ((-M : Int) : Rat) ≤ n := by exact_mod_cast h2
  push_cast at b
  unfold Bd
  constructor <;> grind

structure QBody (b : Body) (n p q m : Int) : Prop where
  x : Qt b.At.X n
  y : Qt b.At.Y p
  y4 : p.natAbs ≤ 4
  z : Qt b.At.Z q
  z4 : q.natAbs ≤ 4
  w : Qt b.Mass m
  m1 : 1 ≤ m
  m8 : m ≤ 8
  ok : okB b = true
  v : Bd (R .f32 b.Speed.X) 1 ∧ Bd (R .f32 b.Speed.Y) 1 ∧ Bd (R .f32 b.Speed.Z) 1

def Drawn (l : List Body) (nx : Int) : Prop :=
  -20 + 4 * (l.length : Int) ≤ nx ∧ nx ≤ -20 + 12 * (l.length : Int) ∧ ∃ f : Nat → Int × Int × Int × Int, (∀ j, j < l.length → QBody (l.getD j default) (f j).1 (f j).2.1 (f j).2.2.1 (f j).2.2.2 ∧ -16 ≤ (f j).1 ∧ (f j).1 ≤ nx) ∧ ∀ i j, i < j → j < l.length → (f i).1 + 4 ≤ (f j).1

theorem getD_app {α : Type} {l : List α} {b d : α} : (∀ j, j < l.length → (l ++ [b]).getD j d = l.getD j d) ∧ (l ++ [b]).getD l.length d = b := by
  constructor
  · intro j hj
    rw [List.getD_eq_getElem?_getD, List.getD_eq_getElem?_getD, List.getElem?_append_left hj]
  · rw [List.getD_eq_getElem?_getD, List.getElem?_append_right (Nat.le_refl _)]
    simp

theorem drawn_next {l : List Body} {nx n p q m : Int} {b : Body} (h : Drawn l nx) (hb : QBody b n p q m) (h1 : nx + 4 ≤ n) (h2 : n ≤ nx + 12) : Drawn (l ++ [b]) n := by
  obtain ⟨a1, a2, f, a3, a4⟩ := h
  obtain ⟨g1, g2⟩ := getD_app (l := l) (b := b) (d := default)
  unfold Drawn
  rw [List.length_append, List.length_singleton]
  refine ⟨by push_cast; omega, by push_cast; omega, fun j => if j < l.length then f j else (n, p, q, m), ?_, ?_⟩
  · intro j hj
    by_cases hlt : j < l.length
    · simp only [if_pos hlt]
      rw [g1 j hlt]
      obtain ⟨c1, c2, c3⟩ := a3 j hlt
      exact ⟨c1, c2, by omega⟩
    · have : j = l.length := by omega
      subst this
      simp only [if_neg hlt]
      rw [g2]
      exact ⟨hb, by omega, by omega⟩
  · intro i j hij hj
    by_cases hlt : j < l.length
    · simp only [if_pos hlt, if_pos (Nat.lt_trans hij hlt)]
      exact a4 i j hij hlt
    · simp only [if_neg hlt]
      have hi : i < l.length := by omega
      simp only [if_pos hi]
      have := (a3 i hi).2.2
      show (f i).1 + 4 ≤ n
      omega

theorem bodies_eq {c : List Int} (hc : Bytes c) (n : Nat) (hn : n ≤ 4) : spec_R8Bodies_need c ((n : Nat) : Int) = true ∧ (spec_R8Bodies c ((n : Nat) : Int)).length = n ∧ ∃ nx, Drawn (spec_R8Bodies c ((n : Nat) : Int)) nx := by
  obtain ⟨h1, h2⟩ := loop_post (step := spec_R8Bodies_loop0_step c)
    (fun s => 0 ≤ s.1 ∧ s.1 + (s.2.2.2.2.length : Int) = (n : Int) ∧ 0 ≤ s.2.2.1 ∧ s.2.2.1 ≤ 20 * (s.2.2.2.2.length : Int) ∧ ∃ nx, Qt s.2.1 nx ∧ Drawn s.2.2.2.2 nx)
    (fun s => s.1.toNat)
    (fun r => r.length = n ∧ ∃ nx, Drawn r nx) (by
    rintro ⟨k, x, a, sd, l⟩ ⟨p1, p2, p3, p4, nx, p5, p6⟩
    simp only at p1 p2 p3 p4 p5 p6
    by_cases hk : k > 0
    · have hd : decide (k > 0) = true := decide_eq_true hk
      obtain ⟨v1, a1, s1, m1, e1, l1, u1, q1, r1⟩ := pick_eq hc sd (a := a) (n := 3) (by omega) (by omega) (by omega) (by omega)
      obtain ⟨v2, a2, s2, m2, e2, l2, u2, q2, r2⟩ := pick_eq hc s1 (a := a1) (n := 9) (by omega) (by omega) (by omega) (by omega)
      obtain ⟨v3, a3, s3, m3, e3, l3, u3, q3, r3⟩ := pick_eq hc s2 (a := a2) (n := 9) (by omega) (by omega) (by omega) (by omega)
      obtain ⟨v4, a4, s4, m4, e4, l4, u4, q4, r4⟩ := pick_eq hc s3 (a := a3) (n := 9) (by omega) (by omega) (by omega) (by omega)
      obtain ⟨v5, a5, s5, m5, e5, l5, u5, q5, r5⟩ := pick_eq hc s4 (a := a4) (n := 9) (by omega) (by omega) (by omega) (by omega)
      obtain ⟨v6, a6, s6, m6, e6, l6, u6, q6, r6⟩ := pick_eq hc s5 (a := a5) (n := 9) (by omega) (by omega) (by omega) (by omega)
      obtain ⟨v7, a7, s7, m7, e7, l7, u7, q7, r7⟩ := pick_eq hc s6 (a := a6) (n := 8) (by omega) (by omega) (by omega) (by omega)
      obtain ⟨k1, rfl⟩ := fin_of (n := 3) l1 u1
      obtain ⟨k2, rfl⟩ := fin_of (n := 9) l2 u2
      obtain ⟨k3, rfl⟩ := fin_of (n := 9) l3 u3
      obtain ⟨k4, rfl⟩ := fin_of (n := 9) l4 u4
      obtain ⟨k5, rfl⟩ := fin_of (n := 9) l5 u5
      obtain ⟨k6, rfl⟩ := fin_of (n := 9) l6 u6
      obtain ⟨k7, rfl⟩ := fin_of (n := 8) l7 u7
      have b1 := k1.isLt
      have b2 := k2.isLt
      have b3 := k3.isLt
      have b4 := k4.isLt
      have b5 := k5.isLt
      have b6 := k6.isLt
      have b7 := k7.isLt
      have f1 := q_x k1
      have f2 := q_y k2
      have f3 := q_y k3
      have f4 := q_y k4
      have f5 := q_y k5
      have f6 := q_y k6
      obtain ⟨f7, f8⟩ := q_m k7
      have hlen : (l.length : Int) ≤ 4 := by omega
      have d1 := p6.1
      have d2 := p6.2.1
      have g1 := p5.add f1 (by omega)
      generalize hX : fadd .f32 x (fofInt .f32 (IntKind.wrap .i64 (1 + (k1.val : Int)))) = X at *
      generalize hY : fdiv .f32 (fofInt .f32 (IntKind.wrap .i64 ((k2.val : Int) - 4))) 1082130432 = Y at *
      generalize hZ : fdiv .f32 (fofInt .f32 (IntKind.wrap .i64 ((k3.val : Int) - 4))) 1082130432 = Z at *
      generalize hA : fdiv .f32 (fofInt .f32 (IntKind.wrap .i64 ((k4.val : Int) - 4))) 1082130432 = A at *
      generalize hB : fdiv .f32 (fofInt .f32 (IntKind.wrap .i64 ((k5.val : Int) - 4))) 1082130432 = B at *
      generalize hC : fdiv .f32 (fofInt .f32 (IntKind.wrap .i64 ((k6.val : Int) - 4))) 1082130432 = C at *
      generalize hM : fdiv .f32 (fofInt .f32 (IntKind.wrap .i64 (1 + (k7.val : Int)))) 1082130432 = M at *
      have hroom : (decide ((List.length l + 1) * 28 ≤ 140737488355328) && decide (List.length l + 1 ≤ 9223372036854775807)) = true := room (by omega) (by decide)
      have hb : QBody ⟨⟨X, Y, Z⟩, ⟨A, B, C⟩, M⟩ (nx + (4 + 4 * (k1.val : Int))) ((k2.val : Int) - 4) ((k3.val : Int) - 4) (1 + (k7.val : Int)) :=
        ⟨g1, f2, by omega, f3, by omega, f7, by omega, by omega, by
          unfold okB finV
          simp only [g1.num, f2.num, f3.num, f4.num, f5.num, f6.num, f7.num, f8, Bool.and_true],
          by rw [f4.R]; exact (quarter_bd (M := 4) (by omega) (by omega)).mono (by decide +kernel), by rw [f5.R]; exact (quarter_bd (M := 4) (by omega) (by omega)).mono (by decide +kernel), by rw [f6.R]; exact (quarter_bd (M := 4) (by omega) (by omega)).mono (by decide +kernel)⟩
      refine ⟨.inl (IntKind.wrap .i64 (k - 1), X, a7, s7, l ++ [⟨⟨X, Y, Z⟩, ⟨A, B, C⟩, M⟩]), [0, 490], ?_, ?_, ?_⟩
      · unfold spec_R8Bodies_loop0_step
        simp only [DT.get, hd, m1, e1, m2, e2, m3, e3, m4, e4, m5, e5, m6, e6, m7, e7, hX, hY, hZ, hA, hB, hC, hM, List.length_singleton, hroom]
      · rw [wrap_small (by omega) (by omega)]
        refine ⟨by show 0 ≤ k - 1; omega, ?_, by show 0 ≤ a7; omega, ?_, _, g1, drawn_next p6 hb (by omega) (by omega)⟩
        · show k - 1 + ((l ++ [_]).length : Int) = n
          rw [List.length_append, List.length_singleton]
          push_cast
          omega
        · show a7 ≤ 20 * ((l ++ [_]).length : Int)
          rw [List.length_append, List.length_singleton]
          push_cast
          omega
      · show (IntKind.wrap .i64 (k - 1)).toNat < k.toNat
        rw [wrap_small (by omega) (by omega)]
        omega
    · have hd : decide (k > 0) = false := decide_eq_false hk
      refine ⟨.inr l, [1], ?_, ?_, nx, p6⟩
      · unfold spec_R8Bodies_loop0_step
        simp only [DT.get, hd]
      · omega) (((n : Nat) : Int), 3231711232, 0, 0, []) ⟨by simp, by simp, by simp, by simp, -20, (by decide +kernel : Qt 3231711232 (-20)), by
        refine ⟨by simp, by simp, fun _ => (0, 0, 0, 0), fun j hj => absurd hj (Nat.not_lt_zero _), fun i j _ hj => absurd hj (Nat.not_lt_zero _)⟩⟩
  have h1 : spec_R8Bodies_loop0_ends c (((n : Nat) : Int), 3231711232, 0, 0, []) = true := h1
  unfold spec_R8Bodies_need spec_R8Bodies spec_R8Bodies_tree
  simp only [DT.ok, DT.val, h1]
  exact ⟨trivial, h2⟩

theorem at_eq {c : List Int} (hc : Bytes c) (k n : Int) (h0 : 0 ≤ k) (hn : 2 ≤ n) (hn2 : n ≤ 1000) : laws_r8At_need c k n = true ∧ 0 ≤ laws_r8At c k n ∧ laws_r8At c k n < n := by
  have d1 : decide (n ≤ 1) = false := decide_eq_false (by omega)
  have d2 : decide (0 ≤ k) = true := decide_eq_true h0
  have d3 : (n != 0) = true := by simp; omega
  have key : ∃ v, (laws_r8At_tree c k n).get = some v ∧ 0 ≤ v ∧ v < n := by
    unfold laws_r8At_tree
    by_cases g : k < ((c.length : Nat) : Int)
    · have g1 : decide (k ≥ ((c.length : Nat) : Int)) = false := decide_eq_false (by omega)
      have hb := hc.at k.toNat (by omega)
      simp only [DT.get, d1, g1, d2, decide_eq_true g, d3, Bool.and_true]
      rw [wrap_small (by omega) (by omega)]
      exact ⟨_, rfl, Int.tmod_nonneg _ hb.1, Int.tmod_lt_of_pos _ (by omega)⟩
    · have g1 : decide (k ≥ ((c.length : Nat) : Int)) = true := decide_eq_true (by omega)
      simp only [DT.get, d1, g1]
      exact ⟨_, rfl, by omega, by omega⟩
  obtain ⟨v, h, hv⟩ := key
  obtain ⟨k1, k2⟩ := DT.of_get h
  have k2 : laws_r8At c k n = v := k2
  rw [k2]
  exact ⟨k1, hv⟩

theorem u8_fit {x : Int} (h : (UC.int .u8).fit x) : 0 ≤ x ∧ x ≤ 255 := by
  have h : (decide (IntKind.min .u8 ≤ x) && decide (x ≤ IntKind.max .u8)) = true := h
  rw [show IntKind.min .u8 = 0 from rfl, show IntKind.max .u8 = 255 from rfl, Bool.and_eq_true, decide_eq_true_eq, decide_eq_true_eq] at h
  exact h

theorem drawn_BL {l : List Body} {nx : Int} (h : Drawn l nx) (h4 : l.length = 4) : BL l 8 2 := by
  obtain ⟨-, a2, f, a3, -⟩ := h
  rw [h4] at a2
  have q7 : ∀ {x : Nat} {n : Int}, Qt x n → -32 ≤ n → n ≤ 32 → Ab x 8 := fun {x n} h h1 h2 => ⟨h.num, by rw [h.R]; exact (quarter_bd (M := 32) h2 (by omega)).mono (by decide +kernel)⟩
  refine ⟨by omega, fun j hj => ?_, fun j hj => ?_, fun j hj => ?_⟩
  · obtain ⟨q, b1, b2⟩ := a3 j hj
    have y4 := q.y4
    have z4 := q.z4
    exact ⟨q7 q.x (by omega) (by omega), q7 q.y (by omega) (by omega), q7 q.z (by omega) (by omega)⟩
  · obtain ⟨q, -, -⟩ := a3 j hj
    have ok := q.ok
    unfold okB at ok
    rw [Bool.and_eq_true, Bool.and_eq_true] at ok
    obtain ⟨n1, n2, n3⟩ := fin3 ok.1.2
    obtain ⟨v1, v2, v3⟩ := q.v
    exact ⟨⟨n1, v1.mono (by decide +kernel)⟩, ⟨n2, v2.mono (by decide +kernel)⟩, ⟨n3, v3.mono (by decide +kernel)⟩⟩
  · obtain ⟨q, -, -⟩ := a3 j hj
    have m1 := q.m1
    have m8 := q.m8
    refine ⟨q.w.num, ?_, ?_⟩
    · rw [q.w.R]
      have : ((1 : Int) : Rat) ≤ ((f j).2.2.2 : Rat) := by exact_mod_cast m1
      have e : ((1 : Int) : Rat) = 1 := rfl
      grind
    · rw [q.w.R]
      have : ((f j).2.2.2 : Rat) ≤ ((8 : Int) : Rat) := by exact_mod_cast m8
      have e : ((8 : Int) : Rat) = 8 := rfl
      grind

theorem fgt_up {s x : Nat} (hx : isNum .f32 x = true) : fgt .f64 (fconv .f32 s .f64) (fconv .f32 x .f64) = fgt .f32 s x := by
  have hx' : isNum .f64 (fconv .f32 x .f64) = true := by rw [isNum_up]; exact hx
  obtain ⟨s1, m1, p1, d1⟩ := isNum_iff.1 hx
  obtain ⟨s2, m2, p2, d2⟩ := isNum_iff.1 hx'
  rcases kinds .f32 s with ⟨b, m, p, hd, h1, h2⟩ | ⟨b, hd, h1, h2⟩ | ⟨b, t, hd, h1, h2⟩
  · obtain ⟨u1, u2⟩ := up_R h1
    obtain ⟨v1, v2⟩ := up_R hx
    rw [fgt_R u1 v1, fgt_R h1 hx, u2, v2]
  · unfold fgt Format.order
    rw [d1, d2, hd, fconv_inf hd]
    have e : ∀ b : Bool, FloatKind.f64.format.read (canon .f64 (FloatKind.f64.encode (.infinity b))) = .infinity b := by decide +kernel
    rw [e b]
    rfl
  · unfold fgt Format.order
    rw [d1, d2, hd, fconv_nan h2]
    have e : ∃ a c, FloatKind.f64.format.read (qnan .f64) = .nan a c := by
      cases hq : FloatKind.f64.format.read (qnan .f64) with
      | nan a c => exact ⟨a, c, rfl⟩
      | number a c d =>
        have : isNaN .f64 (qnan .f64) = true := by decide +kernel
        unfold isNaN at this
        rw [hq] at this
        cases this
      | infinity a =>
        have : isNaN .f64 (qnan .f64) = true := by decide +kernel
        unfold isNaN at this
        rw [hq] at this
        cases this
    obtain ⟨a, c, e⟩ := e
    rw [e]
    rfl

theorem far_eq (u v : Vec) : laws_r8Far_need u v = true ∧ laws_r8Far u v = fconv .f32 (impl_SizeOfVector (impl_LessVectors u v)) .f64 := by
  have key : (laws_r8Far_tree u v).get = some (fconv .f32 (impl_SizeOfVector (impl_LessVectors u v)) .f64) := by
    unfold laws_r8Far_tree
    simp only [DT.get, vec_eta, Size_need, fconvOk_up]
  exact DT.of_get key

theorem around_loop {a0 a1 : List Int} {A n : Nat} {ar : List Body} (hA : I .f32 A (some (1, 11 / 4))) (hl : ar.length = n) (h7 : n ≤ 7) (h : ∀ j, j < n → isNum .f32 (impl_SizeOfVector (ar.getD j default).At) = true ∧ Nr (R .f32 (impl_SizeOfVector (ar.getD j default).At)) (R .f32 A) (R .f32 A * (1 / 100))) :
    laws_FnRounds_loop0_ends (a0, a1, A, ((n : Nat) : Int), ar) 0 = true ∧ laws_FnRounds_loop0 (a0, a1, A, ((n : Nat) : Int), ar) 0 = .inr () := by
  obtain ⟨h1, h2⟩ := scan_loop (α := Unit) (β := Unit) (step := laws_FnRounds_loop0_step (a0, a1, A, ((n : Nat) : Int), ar)) n (fun _ => none) () (fun i hi => by
    refine ⟨[0], ?_⟩
    obtain ⟨s1, s2⟩ := h i hi
    obtain ⟨g1, g2⟩ := gap_near s1 hA s2
    have hi' : i < ar.length := by omega
    have d : decide (i < ar.length) = true := decide_eq_true hi'
    unfold laws_FnRounds_loop0_step
    simp only [DT.get, nat_dec hi, nat_dec hi', nat_ge, Bool.and_self, Int.toNat_natCast, d, vec_eta, Size_need, fconvOk_up, g1, g2, nat_next hi (by omega)]) ⟨[], by
    unfold laws_FnRounds_loop0_step
    simp only [DT.get, nat_not]⟩
  have hf : firstOf (fun _ : Nat => (none : Option Unit)) n = none := by
    unfold firstOf
    rw [List.findSome?_eq_none_iff]
    exact fun _ _ => rfl
  rw [hf] at h2
  exact ⟨h1, h2⟩

theorem parts_loop {x : Nat} {fine coarse : List Body} (hx : isNum .f32 x = true) (hl : coarse.length = fine.length) (h4 : fine.length ≤ 16)
    (h : ∀ i, i < fine.length → fgt .f32 (impl_SizeOfVector (impl_LessVectors (coarse.getD i default).At (fine.getD i default).At)) x = false) :
    laws_FnRounds_loop3_ends (x, fine, coarse) 0 = true ∧ laws_FnRounds_loop3 (x, fine, coarse) 0 = .inr () := by
  obtain ⟨h1, h2⟩ := scan_loop (α := Unit) (β := Unit) (step := laws_FnRounds_loop3_step (x, fine, coarse)) fine.length (fun _ => none) () (fun i hi => by
    refine ⟨[0, 1], ?_⟩
    have hi' : i < coarse.length := by omega
    have d : decide (i < fine.length) = true := decide_eq_true hi
    have d' : decide (i < coarse.length) = true := decide_eq_true hi'
    have hg : fgt .f64 (fconv .f32 (impl_SizeOfVector (impl_LessVectors (coarse.getD i default).At (fine.getD i default).At)) .f64) (fconv .f32 x .f64) = false := by
      rw [fgt_up hx]
      exact h i hi
    unfold laws_FnRounds_loop3_step
    simp only [DT.get, nat_dec hi, nat_dec hi', nat_ge, Bool.and_self, Int.toNat_natCast, d, d', vec_eta, (far_eq _ _).1, (far_eq _ _).2, fconvOk_up, hg, nat_next hi (by omega)]) ⟨[], by
    unfold laws_FnRounds_loop3_step
    simp only [DT.get, nat_not]⟩
  have hf : firstOf (fun _ : Nat => (none : Option Unit)) fine.length = none := by
    unfold firstOf
    rw [List.findSome?_eq_none_iff]
    exact fun _ _ => rfl
  rw [hf] at h2
  exact ⟨h1, h2⟩

/-! ## The law -/

/-- What the law finds ahead of the steps in parts. -/
structure Head (a0 a1 : List Int) (m o A n : Nat) (L r P ar l th : List Body) (mv : Vec) (far least dist : Nat) (i1 k1 : Int) (a b at' : Nat) (i2 k2 : Int) (near : Nat) : Prop where
  h0 : laws_r8Long a0 a1 = false
  e1 : laws_r8At_need a1 0 8 = true
  e2 : fdiv .f32 (fofInt .f32 (IntKind.wrap .i64 (1 + laws_r8At a1 0 8))) 1082130432 = m
  e3 : laws_r8At_need a1 1 8 = true
  e4 : fdiv .f32 (fofInt .f32 (IntKind.wrap .i64 (1 + laws_r8At a1 1 8))) 1082130432 = o
  e5 : laws_r8At_need a1 2 8 = true
  e6 : fdiv .f32 (fofInt .f32 (IntKind.wrap .i64 (4 + laws_r8At a1 2 8))) 1082130432 = A
  c1 : impl_CircleBodies_need m o A = true
  c2 : impl_CircleBodies m o A = .inr L
  r1 : impl_RunBodies_need L 0 1023410176 8 = true
  r2 : impl_RunBodies L 0 1023410176 8 = .inr r
  m1 : impl_MomentumOfBodies_need L = true
  m2 : impl_MomentumOfBodies L = (mv, true)
  b1 : impl_BoundTo_need L 0 1 = true
  b2 : impl_BoundTo L 0 1 = (true, true)
  n1 : impl_NearestBodies_need r = true
  n2 : impl_NearestBodies r = (i1, k1, far, true)
  s2 : fgt .f32 (impl_SizeOfVector mv) 981668463 = false
  g1 : laws_r8Gap_need (fconv .f32 far .f64) (fconv .f32 A .f64) = true
  g2 : fgt .f64 (laws_r8Gap (fconv .f32 far .f64) (fconv .f32 A .f64)) (fmul .f64 4581421828931458171 (fconv .f32 A .f64)) = false
  e7 : laws_r8At_need a1 3 6 = true
  e8 : IntKind.wrap .i64 (2 + laws_r8At a1 3 6) = ((n : Nat) : Int)
  p1 : impl_PolygonBodies_need ((n : Nat) : Int) A m = true
  p2 : impl_PolygonBodies ((n : Nat) : Int) A m = .inr P
  q1 : impl_RunBodies_need P 0 1023410176 4 = true
  q2 : impl_RunBodies P 0 1023410176 4 = .inr ar
  q3 : (((ar.length : Nat) : Int) != ((n : Nat) : Int)) = false
  l1 : laws_FnRounds_loop0_ends (a0, a1, A, ((n : Nat) : Int), ar) 0 = true
  l2 : laws_FnRounds_loop0 (a0, a1, A, ((n : Nat) : Int), ar) 0 = .inr ()
  d1 : spec_R8Bodies_need a0 4 = true
  d2 : spec_R8Bodies a0 4 = l
  d3 : l.length = 4
  f1 : impl_NearestBodies_need l = true
  f2 : impl_NearestBodies l = (((a : Nat) : Int), ((b : Nat) : Int), least, true)
  f3 : decide (((a : Nat) : Int) < 0) = false
  f4 : decide (((b : Nat) : Int) ≤ ((a : Nat) : Int)) = false
  f5 : decide (((b : Nat) : Int) > 3) = false
  f6 : decide (((b : Nat) : Int) < ((4 : Nat) : Int)) = true
  f7 : decide (((a : Nat) : Int) < ((4 : Nat) : Int)) = true
  f8 : decide (b < 4) = true
  f9 : decide (a < 4) = true
  t0 : fne .f64 (fconv .f32 (impl_SizeOfVector (impl_LessVectors (l.getD b default).At (l.getD a default).At)) .f64) (fconv .f32 least .f64) = false
  t1 : flt .f64 (fconv .f32 (impl_SizeOfVector (impl_LessVectors (l.getD 1 default).At (l.getD 0 default).At)) .f64) (fconv .f32 least .f64) = false
  t2 : flt .f64 (fconv .f32 (impl_SizeOfVector (impl_LessVectors (l.getD 2 default).At (l.getD 0 default).At)) .f64) (fconv .f32 least .f64) = false
  t3 : flt .f64 (fconv .f32 (impl_SizeOfVector (impl_LessVectors (l.getD 3 default).At (l.getD 0 default).At)) .f64) (fconv .f32 least .f64) = false
  t4 : flt .f64 (fconv .f32 (impl_SizeOfVector (impl_LessVectors (l.getD 2 default).At (l.getD 1 default).At)) .f64) (fconv .f32 least .f64) = false
  t5 : flt .f64 (fconv .f32 (impl_SizeOfVector (impl_LessVectors (l.getD 3 default).At (l.getD 1 default).At)) .f64) (fconv .f32 least .f64) = false
  t6 : flt .f64 (fconv .f32 (impl_SizeOfVector (impl_LessVectors (l.getD 3 default).At (l.getD 2 default).At)) .f64) (fconv .f32 least .f64) = false
  w1 : impl_NearestPass_need l 1056964608 1031798784 6 = true
  w2 : impl_NearestPass l 1056964608 1031798784 6 = (((at' : Nat) : Int), dist, true)
  y1 : impl_RunBodies_need l 1056964608 1031798784 ((at' : Nat) : Int) = true
  y2 : impl_RunBodies l 1056964608 1031798784 ((at' : Nat) : Int) = .inr th
  z1 : impl_NearestBodies_need th = true
  z2 : impl_NearestBodies th = (i2, k2, dist, true)
  x1 : decide (((at' : Nat) : Int) < 0) = false
  x2 : decide (((at' : Nat) : Int) > 6) = false
  x3 : fne .f32 dist dist = false
  x4 : fgt .f32 dist least = false
  v1 : laws_r8At_need a1 4 8 = true
  v2 : fdiv .f32 (fofInt .f32 (IntKind.wrap .i64 (1 + laws_r8At a1 4 8))) 1098907648 = near

theorem ints4 : decide ((0 : Int) ≤ 0) = true ∧ decide ((0 : Int) ≤ 1) = true ∧ decide ((0 : Int) ≤ 2) = true ∧ decide ((0 : Int) ≤ 3) = true ∧ decide ((0 : Int) < ((4 : Nat) : Int)) = true ∧ decide ((1 : Int) < ((4 : Nat) : Int)) = true ∧ decide ((2 : Int) < ((4 : Nat) : Int)) = true ∧ decide ((3 : Int) < ((4 : Nat) : Int)) = true ∧ decide (0 < 4) = true ∧ decide (1 < 4) = true ∧ decide (2 < 4) = true ∧ decide (3 < 4) = true ∧ (∀ a : Nat, decide (((0 : Nat) : Int) ≤ (a : Int)) = true) ∧ decide ((0 : Nat) ≤ 0) = true ∧ decide ((0 : Nat) ≤ 1) = true ∧ decide ((0 : Nat) ≤ 2) = true ∧ decide ((0 : Nat) ≤ 3) = true := by
  refine ⟨by decide, by decide, by decide, by decide, by decide, by decide, by decide, by decide, by decide, by decide, by decide, by decide, fun a => decide_eq_true (by omega), by decide, by decide, by decide, by decide⟩

theorem law_in {a0 a1 : List Int} {m o A n : Nat} {L r P ar l th : List Body} {mv : Vec} {far least dist : Nat} {i1 k1 : Int} {a b at' : Nat} {i2 k2 : Int} {near : Nat} (H : Head a0 a1 m o A n L r P ar l th mv far least dist i1 k1 a b at' i2 k2 near) {z : Int}
    (u1 : impl_HalvedBodies_need l 1056964608 1056964608 near = true) (u2 : impl_HalvedBodies l 1056964608 1056964608 near = .inl z) : (laws_FnRounds_tree a0 a1).get = some true := by
  obtain ⟨h0, e1, e2, e3, e4, e5, e6, c1, c2, r1, r2, m1, m2, b1, b2, n1, n2, s2, g1, g2, e7, e8, p1, p2, q1, q2, q3, l1, l2, d1, d2, d3, f1, f2, f3, f4, f5, f6, f7, f8, f9, t0, t1, t2, t3, t4, t5, t6, w1, w2, y1, y2, z1, z2, x1, x2, x3, x4, v1, v2⟩ := H
  obtain ⟨j1, j2, j3, j4, j5, j6, j7, j8, k1', k2', k3', k4', -, i1', i2', i3', i4'⟩ := ints4
  unfold laws_FnRounds_tree
  simp only [h0, e1, e2, e3, e4, e5, e6, c1, c2, isL, rightD, r1, r2, m1, m2, b1, b2, n1, n2, vec_eta, Size_need, s2, fconvOk_up, g1, g2, e7, e8, p1, p2, q1, q2, q3, l1, l2, d1, d2, d3, f1, f2, f3, f4, f5, nat_ge, f6, f7, f8, f9, Int.toNat_natCast, (far_eq _ _).1, (far_eq _ _).2, t0, t1, t2, t3, t4, t5, t6, j1, j2, j3, j4, j5, j6, j7, j8, k1', k2', k3', k4', i1', i2', i3', i4', w1, w2, y1, y2, z1, z2, x1, x2, x3, x4, v1, v2, u1, u2]
  simp only [DT.get, Bool.not_true, Bool.and_self, i1', i2', i3', i4', j1, j2, j3, j4]

theorem law_out {a0 a1 : List Int} {m o A n : Nat} {L r P ar l th : List Body} {mv : Vec} {far least dist : Nat} {i1 k1 : Int} {a b at' : Nat} {i2 k2 : Int} {near : Nat} (H : Head a0 a1 m o A n L r P ar l th mv far least dist i1 k1 a b at' i2 k2 near) {fine coarse : List Body} {M : Nat}
    (u1 : impl_HalvedBodies_need l 1056964608 1056964608 near = true) (u2 : impl_HalvedBodies l 1056964608 1056964608 near = .inr (fine, ((M : Nat) : Int)))
    (o1 : impl_RunBodies_need l 1056964608 (fdiv .f32 1056964608 (fofInt .f32 ((M : Nat) : Int))) ((M : Nat) : Int) = true) (o2 : impl_RunBodies l 1056964608 (fdiv .f32 1056964608 (fofInt .f32 ((M : Nat) : Int))) ((M : Nat) : Int) = .inr coarse)
    (o3 : decide (((M : Nat) : Int) < 1) = false) (o4 : decide (((M : Nat) : Int) > 16) = false) (o5 : (((coarse.length : Nat) : Int) != ((fine.length : Nat) : Int)) = false)
    (o6 : laws_FnRounds_loop3_ends (near, fine, coarse) 0 = true) (o7 : laws_FnRounds_loop3 (near, fine, coarse) 0 = .inr ()) : (laws_FnRounds_tree a0 a1).get = some true := by
  obtain ⟨h0, e1, e2, e3, e4, e5, e6, c1, c2, r1, r2, m1, m2, b1, b2, n1, n2, s2, g1, g2, e7, e8, p1, p2, q1, q2, q3, l1, l2, d1, d2, d3, f1, f2, f3, f4, f5, f6, f7, f8, f9, t0, t1, t2, t3, t4, t5, t6, w1, w2, y1, y2, z1, z2, x1, x2, x3, x4, v1, v2⟩ := H
  obtain ⟨j1, j2, j3, j4, j5, j6, j7, j8, k1', k2', k3', k4', -, i1', i2', i3', i4'⟩ := ints4
  unfold laws_FnRounds_tree
  simp only [h0, e1, e2, e3, e4, e5, e6, c1, c2, isL, rightD, r1, r2, m1, m2, b1, b2, n1, n2, vec_eta, Size_need, s2, fconvOk_up, g1, g2, e7, e8, p1, p2, q1, q2, q3, l1, l2, d1, d2, d3, f1, f2, f3, f4, f5, nat_ge, f6, f7, f8, f9, Int.toNat_natCast, (far_eq _ _).1, (far_eq _ _).2, t0, t1, t2, t3, t4, t5, t6, j1, j2, j3, j4, j5, j6, j7, j8, k1', k2', k3', k4', i1', i2', i3', i4', w1, w2, y1, y2, z1, z2, x1, x2, x3, x4, v1, v2, u1, u2, o1, o2, o3, o4, o5, o6, o7]
  simp only [DT.get, Bool.not_true, Bool.and_self, i1', i2', i3', i4', j1, j2, j3, j4]

theorem long8 {a0 a1 : List Int} (h : laws_r8Long a0 a1 = false) : a0.length ≤ 48 ∧ a1.length ≤ 48 := by
  unfold laws_r8Long laws_r8Long_tree at h
  simp only [DT.val] at h
  by_cases g : ((a0.length : Nat) : Int) > 48
  · rw [decide_eq_true g] at h
    cases h
  · rw [decide_eq_false g] at h
    by_cases g2 : ((a1.length : Nat) : Int) > 48
    · rw [decide_eq_true g2] at h
      cases h
    · omega

theorem near_all : ∀ k : Fin 8, (isNum .f32 (fdiv .f32 (fofInt .f32 (IntKind.wrap .i64 (1 + (k.val : Int)))) 1098907648) && !flt .f32 (fdiv .f32 (fofInt .f32 (IntKind.wrap .i64 (1 + (k.val : Int)))) 1098907648) 0) = true := by decide +kernel

theorem num_fne' {k : FloatKind} {x : Nat} (h : isNum k x = true) : fne k x x = false := by rw [fne_self, num_nan h]

theorem rounds_true (a0 a1 : List Int) (hb0 : ∀ x ∈ a0, 0 ≤ x ∧ x ≤ 255) (hb1 : ∀ x ∈ a1, 0 ≤ x ∧ x ≤ 255) : laws_FnRounds_need a0 a1 = true ∧ laws_FnRounds a0 a1 = true := by
  have key : (laws_FnRounds_tree a0 a1).get = some true := by
    cases hlong : laws_r8Long a0 a1 with
    | true =>
      unfold laws_FnRounds_tree
      simp only [hlong]
      simp only [DT.get]
    | false =>
      obtain ⟨n0, n1⟩ := long8 hlong
      have hc : Bytes a0 := ⟨by omega, hb0⟩
      have hd : Bytes a1 := ⟨by omega, hb1⟩
      obtain ⟨e1, u1, v1⟩ := at_eq hd 0 8 (by omega) (by omega) (by omega)
      obtain ⟨e3, u3, v3⟩ := at_eq hd 1 8 (by omega) (by omega) (by omega)
      obtain ⟨e5, u5, v5⟩ := at_eq hd 2 8 (by omega) (by omega) (by omega)
      obtain ⟨e7, u7, v7⟩ := at_eq hd 3 6 (by omega) (by omega) (by omega)
      obtain ⟨e9, u9, v9⟩ := at_eq hd 4 8 (by omega) (by omega) (by omega)
      obtain ⟨ka, hka⟩ := fin_of (n := 8) u1 v1
      obtain ⟨kb, hkb⟩ := fin_of (n := 8) u3 v3
      obtain ⟨kc, hkc⟩ := fin_of (n := 8) u5 v5
      obtain ⟨kd, hkd⟩ := fin_of (n := 6) u7 v7
      obtain ⟨ke, hke⟩ := fin_of (n := 8) u9 v9
      have em : fdiv .f32 (fofInt .f32 (IntKind.wrap .i64 (1 + laws_r8At a1 0 8))) 1082130432 = mW ka.val := by rw [hka, mW]
      have eo : fdiv .f32 (fofInt .f32 (IntKind.wrap .i64 (1 + laws_r8At a1 1 8))) 1082130432 = mW kb.val := by rw [hkb, mW]
      have eA : fdiv .f32 (fofInt .f32 (IntKind.wrap .i64 (4 + laws_r8At a1 2 8))) 1082130432 = aW kc.val := by rw [hkc, aW]
      have en : IntKind.wrap .i64 (2 + laws_r8At a1 3 6) = ((kd.val + 2 : Nat) : Int) := by
        rw [hkd, wrap_small (by omega) (by omega)]
        omega
      have sm := size_all ka
      have so := size_all kb
      have sA := size_all kc
      unfold sizeB at sm so sA
      simp only [Bool.and_eq_true] at sm so sA
      obtain ⟨cc, cr⟩ := circ_all ka kb kc
      have K : PairK (mW ka.val) (mW kb.val) (aW kc.val) := ⟨I.at sm.1, I.at so.1, I.at sA.2.1, cc, cr⟩
      have pB := poly_all kd kc ka
      generalize mW ka.val = m at *
      generalize mW kb.val = o at *
      generalize aW kc.val = A at *
      -- the pair
      obtain ⟨c1, c2, hLok⟩ := Circ_eq K
      obtain ⟨m1, m2, m3⟩ := Mom_eq K
      obtain ⟨b1, b2⟩ := Bound_eq K
      obtain ⟨r, hr, hrl, hrn, hrd⟩ := pair_run K
      have z0 : leastB 0 = true := by decide +kernel
      have tk : isNum .f32 1023410176 = true := tick_ring.2.2.2.1
      obtain ⟨r1, r2⟩ := run_eq (pairL m o A) 0 1023410176 8 (by omega) hLok z0 tk
      rw [hr] at r2
      obtain ⟨hrok, -⟩ := stateP_ok hLok hr
      have hrA : Apart r := fun p q hp hq => by
        have h1 : p = 0 := by omega
        have h2 : q = 1 := by omega
        subst h1 h2
        exact hrn
      obtain ⟨n1', a', b', n2', hab', hb', -⟩ := NearestBodies_eq hrok (by omega) hrA
      have ha0 : a' = 0 := by omega
      have hb1' : b' = 1 := by omega
      subst ha0 hb1'
      obtain ⟨g1, g2⟩ := gap_near hrn K.hA hrd
      -- the polygon
      obtain ⟨p1, p2, hPok, ar, har, harl, hard⟩ := poly_run (n := kd.val + 2) (A := A) (m := m) (by omega) (by omega) K.hA K.hm pB
      obtain ⟨q1, q2⟩ := run_eq (polyL (kd.val + 2) A m) 0 1023410176 4 (by omega) hPok z0 tk
      rw [har] at q2
      have q3 : (((ar.length : Nat) : Int) != ((kd.val + 2 : Nat) : Int)) = false := by rw [harl]; simp
      obtain ⟨l1, l2⟩ := around_loop (a0 := a0) (a1 := a1) K.hA harl (by omega) hard
      -- the bodies that are drawn
      obtain ⟨d1, d3, nx, hD⟩ := bodies_eq hc 4 (by omega)
      generalize hl : spec_R8Bodies a0 ((4 : Nat) : Int) = l at *
      have hBL := drawn_BL hD d3
      have hlok := hBL.ok
      have hlA := apart_A hBL (by decide +kernel) (by decide +kernel)
      obtain ⟨f1, a, b, f2, hab, hb, hle⟩ := NearestBodies_eq hlok (by omega) hlA
      have hleast := hlA a b hab hb
      have hnum := fun p q (hp : p < q) (hq : q < 4) => hlA p q hp (by omega)
      have hlt : ∀ p q, p < q → q < 4 → flt .f64 (fconv .f32 (sizeP l q p) .f64) (fconv .f32 (sizeP l b a) .f64) = false := fun p q hp hq => by
        obtain ⟨u1, u2⟩ := up_R (hnum p q hp hq)
        obtain ⟨v1, v2⟩ := up_R hleast
        rw [flt_R u1 v1, u2, v2]
        have := hle p q hp (by omega)
        exact decide_eq_false (by grind)
      have k5 : leastB 1056964608 = true := by decide +kernel
      have k6 : isNum .f32 1031798784 = true := tick6.2.2.1
      obtain ⟨w1, at', th, w2, hat, hth, hthA, hple⟩ := pass_eq hlok (by omega) k5 k6 6 (by omega) (by omega) (six_A hBL)
      obtain ⟨thok, thl⟩ := stateP_ok hlok hth
      obtain ⟨y1, y2⟩ := run_eq l 1056964608 1031798784 at' (by omega) hlok k5 k6
      rw [hth] at y2
      obtain ⟨z1, z2, z3⟩ := least_num thok (by omega) hthA
      obtain ⟨o1', o2', o3'⟩ := least_num hlok (by omega) hlA
      have eleast : leastD l = sizeP l b a := by unfold leastD; rw [f2]
      have edist : impl_NearestBodies th = ((impl_NearestBodies th).1, (impl_NearestBodies th).2.1, leastD th, true) := by
        have : (impl_NearestBodies th).2.2 = (leastD th, true) := Prod.ext rfl z2
        rw [← this]
      obtain ⟨nn, nz⟩ : isNum .f32 (fdiv .f32 (fofInt .f32 (IntKind.wrap .i64 (1 + laws_r8At a1 4 8))) 1098907648) = true ∧ flt .f32 (fdiv .f32 (fofInt .f32 (IntKind.wrap .i64 (1 + laws_r8At a1 4 8))) 1098907648) 0 = false := by
        have h := near_all ke
        rw [Bool.and_eq_true, Bool.not_eq_true'] at h
        rw [hke]
        exact h
      generalize hN : fdiv .f32 (fofInt .f32 (IntKind.wrap .i64 (1 + laws_r8At a1 4 8))) 1098907648 = near at *
      have hd2 : spec_R8Bodies a0 4 = l := hl
      have hd1 : spec_R8Bodies_need a0 4 = true := d1
      have H : Head a0 a1 m o A (kd.val + 2) (pairL m o A) r (polyL (kd.val + 2) A m) ar l th (momV m o A) (sizeP r 1 0) (sizeP l b a) (leastD th) (((0 : Nat) : Int)) (((1 : Nat) : Int)) a b at' (impl_NearestBodies th).1 (impl_NearestBodies th).2.1 near :=
        { h0 := hlong, e1 := e1, e2 := em, e3 := e3, e4 := eo, e5 := e5, e6 := eA, c1 := c1, c2 := c2, r1 := r1, r2 := r2, m1 := m1, m2 := m2, b1 := b1, b2 := b2, n1 := n1', n2 := n2', s2 := m3, g1 := g1, g2 := g2
          e7 := e7, e8 := en, p1 := p1, p2 := p2, q1 := q1, q2 := q2, q3 := q3, l1 := l1, l2 := l2, d1 := hd1, d2 := hd2, d3 := d3, f1 := f1, f2 := f2
          f3 := decide_eq_false (by omega), f4 := decide_eq_false (by omega), f5 := decide_eq_false (by omega), f6 := decide_eq_true (by omega), f7 := decide_eq_true (by omega), f8 := decide_eq_true (by omega), f9 := decide_eq_true (by omega)
          t0 := num_fne' (by rw [isNum_up]; exact hleast)
          t1 := hlt 0 1 (by omega) (by omega), t2 := hlt 0 2 (by omega) (by omega), t3 := hlt 0 3 (by omega) (by omega), t4 := hlt 1 2 (by omega) (by omega), t5 := hlt 1 3 (by omega) (by omega), t6 := hlt 2 3 (by omega) (by omega)
          w1 := w1, w2 := w2, y1 := y1, y2 := y2, z1 := z1, z2 := edist, x1 := decide_eq_false (by omega), x2 := decide_eq_false (by omega), x3 := num_fne' z3
          x4 := by
            rw [fgt_R z3 hleast]
            rw [eleast] at hple
            exact decide_eq_false (by grind)
          v1 := e9, v2 := hN }
      obtain ⟨u1', hu⟩ := halved_eq hlok k5 nn nz
      rcases hu with ⟨z, hu⟩ | ⟨M, ca, fi, hM, hM16, hu, hca, hfl, hcl, hnear⟩
      · exact law_in H u1' hu
      · obtain ⟨o1, o2⟩ := run_eq l 1056964608 (fdiv .f32 1056964608 (fofInt .f32 ((M : Nat) : Int))) M (by omega) hlok k5 (parts_num M hM)
        rw [hca] at o2
        have hM1 : 1 ≤ M := by rcases hM with rfl | rfl | rfl | rfl | rfl | rfl <;> omega
        obtain ⟨o6, o7⟩ := parts_loop (x := near) (fine := fi) (coarse := ca) nn (by omega) (by omega) (fun i hi => hnear i (by omega))
        exact law_out H u1' hu o1 o2 (decide_eq_false (by omega)) (decide_eq_false (by omega)) (by rw [hfl, hcl]; simp) o6 o7
  exact DT.of_get key

theorem plain3 (c : List Int) (_ : c.length ≤ maxLen) (hc : ∀ x ∈ c, (UC.int .u8).fit x) (d : List Int) (_ : d.length ≤ maxLen) (hd : ∀ x ∈ d, (UC.int .u8).fit x) : laws_FnRounds_need c d = true ∧ laws_FnRounds c d = true :=
  rounds_true c d (fun x h => u8_fit (hc x h)) (fun x h => u8_fit (hd x h))

end Go.Proofs.Ytilfdpllleninaa
