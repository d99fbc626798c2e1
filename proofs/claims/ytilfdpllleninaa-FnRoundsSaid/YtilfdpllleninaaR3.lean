/- The plain law of FnRounds, part 3: bodies with a core stay numbers for six steps. -/
import Derived.Test.YtilfdpllleninaaR2
namespace Go.Proofs.Ytilfdpllleninaa
open Ieee
set_option linter.unusedVariables false
set_option linter.unusedSimpArgs false

def Ab (x : Nat) (M : Rat) : Prop := isNum .f32 x = true ∧ Bd (R .f32 x) M
def VecA (v : Vec) (M : Rat) : Prop := Ab v.X M ∧ Ab v.Y M ∧ Ab v.Z M

theorem Ab.mono {x : Nat} {M N : Rat} (h : Ab x M) (g : M ≤ N) : Ab x N := ⟨h.1, h.2.mono g⟩
theorem VecA.mono {v : Vec} {M N : Rat} (h : VecA v M) (g : M ≤ N) : VecA v N := ⟨h.1.mono g, h.2.1.mono g, h.2.2.mono g⟩
theorem VecA.fin {v : Vec} {M : Rat} (h : VecA v M) : finV v = true := by unfold finV; rw [h.1.1, h.2.1.1, h.2.2.1]; rfl

theorem Ab.round {x : Nat} {q M K : Rat} (f : Fl .f32 x q) (b : Bd q M) (h : M * (1000001 / 1000000) + 1 / 1000000 ≤ K) : Ab x K := by
  have hT := T_le
  have e := f.err b
  have h0 := b.nonneg
  exact ⟨f.1, by unfold Nr Bd at *; constructor <;> grind⟩

theorem Ab.add {x y : Nat} {M N K : Rat} (hx : Ab x M) (hy : Ab y N) (h : (M + N) * (1000001 / 1000000) + 1 / 1000000 ≤ K) (hK : K ≤ 1000000000000000000000) : Ab (fadd .f32 x y) K := by
  have hG := Gr_ge
  have b := Bd.add hx.2 hy.2
  have := b.nonneg
  exact Ab.round (fadd_fl hx.1 hy.1 (b.mono (by grind))) b h
theorem Ab.sub {x y : Nat} {M N K : Rat} (hx : Ab x M) (hy : Ab y N) (h : (M + N) * (1000001 / 1000000) + 1 / 1000000 ≤ K) (hK : K ≤ 1000000000000000000000) : Ab (fsub .f32 x y) K := by
  have hG := Gr_ge
  have b := Bd.sub hx.2 hy.2
  have := b.nonneg
  exact Ab.round (fsub_fl hx.1 hy.1 (b.mono (by grind))) b h
theorem Ab.mul {x y : Nat} {M N K : Rat} (hx : Ab x M) (hy : Ab y N) (h : (M * N) * (1000001 / 1000000) + 1 / 1000000 ≤ K) (hK : K ≤ 1000000000000000000000) : Ab (fmul .f32 x y) K := by
  have hG := Gr_ge
  have b := Bd.mul hx.2 hy.2
  have := b.nonneg
  exact Ab.round (fmul_fl hx.1 hy.1 (b.mono (by grind))) b h

theorem less_A {a b : Vec} {M N K : Rat} (ha : VecA a M) (hb : VecA b N) (h : (M + N) * (1000001 / 1000000) + 1 / 1000000 ≤ K) (hK : K ≤ 1000000000000000000000) : VecA (impl_LessVectors a b) K := ⟨ha.1.sub hb.1 h hK, ha.2.1.sub hb.2.1 h hK, ha.2.2.sub hb.2.2 h hK⟩
theorem add_A {a b : Vec} {M N K : Rat} (ha : VecA a M) (hb : VecA b N) (h : (M + N) * (1000001 / 1000000) + 1 / 1000000 ≤ K) (hK : K ≤ 1000000000000000000000) : VecA (impl_AddVectors a b) K := ⟨ha.1.add hb.1 h hK, ha.2.1.add hb.2.1 h hK, ha.2.2.add hb.2.2 h hK⟩
theorem scale_A {a : Vec} {c : Nat} {M N K : Rat} (ha : VecA a M) (hc : Ab c N) (h : (M * N) * (1000001 / 1000000) + 1 / 1000000 ≤ K) (hK : K ≤ 1000000000000000000000) : VecA (impl_ScaleVector a c) K := ⟨ha.1.mul hc h hK, ha.2.1.mul hc h hK, ha.2.2.mul hc h hK⟩

theorem soft_eq (v : Vec) (c : Nat) : impl_softened v c = fadd .f32 (innerN v.X v.Y v.Z) (fmul .f32 c c) := by
  unfold impl_softened impl_softened_tree
  simp only [DT.val]
  rfl

theorem core_half : fmul .f32 1056964608 1056964608 = 1048576000 ∧ isNum .f32 1048576000 = true ∧ R .f32 1048576000 = 1 / 4 := by decide +kernel

/-- The square with the core of a half, and the share. -/
theorem share_A {v : Vec} {m : Nat} {D : Rat} (hv : VecA v D) (hD : D ≤ 100000000) (hm : I .f32 m (some (0, 2))) : isNum .f32 (impl_softened v 1056964608) = true ∧ 0 < R .f32 (impl_softened v 1056964608) ∧ Ab (fdiv .f32 m (fmul .f32 (impl_softened v 1056964608) (rootN (impl_softened v 1056964608)))) 20 := by
  have hT := T_le
  have hT0 := T_pos
  have hG := Gr_ge
  have hD0 := hv.1.2.nonneg
  have sq := fun {x : Nat} (h : Ab x D) => sq_bd h.2
  have s1 := sq hv.1
  have s2 := sq hv.2.1
  have s3 := sq hv.2.2
  have n1 := sq_nonneg (R .f32 v.X)
  have n2 := sq_nonneg (R .f32 v.Y)
  have n3 := sq_nonneg (R .f32 v.Z)
  have hDD : D * D ≤ 10000000000000000 := by have := sq_le hD0 hD; grind
  obtain ⟨i1, i2⟩ := inner_fl (B := 30000000000000000) hv.1.1 hv.2.1.1 hv.2.2.1 (by grind) (by decide +kernel)
  rw [soft_eq, core_half.1]
  obtain ⟨-, k1, k2⟩ := core_half
  clear sq
  have hS0 : 0 ≤ R .f32 v.X * R .f32 v.X + R .f32 v.Y * R .f32 v.Y + R .f32 v.Z * R .f32 v.Z := by grind
  have hS1 : R .f32 v.X * R .f32 v.X + R .f32 v.Y * R .f32 v.Y + R .f32 v.Z * R .f32 v.Z ≤ 30000000000000000 := by grind
  generalize R .f32 v.X * R .f32 v.X + R .f32 v.Y * R .f32 v.Y + R .f32 v.Z * R .f32 v.Z = S at *
  have bq : Bd (R .f32 (innerN v.X v.Y v.Z) + R .f32 1048576000) (S * (1000001 / 1000000) + 1 / 2) := by rw [k2]; unfold Nr at i2; unfold Bd; constructor <;> grind
  have f := fadd_fl i1 k1 (bq.mono (by grind))
  have e := f.err bq
  have fn := f.1
  generalize fadd .f32 (innerN v.X v.Y v.Z) 1048576000 = q at *
  have q0 : 24 / 100 ≤ R .f32 q := by rw [k2] at e; unfold Nr at i2 e; grind
  have q1 : R .f32 q ≤ 40000000000000000 := by rw [k2] at e; unfold Nr at i2 e; grind
  obtain ⟨-, -, rn, ρ, r1, r2, r3⟩ := root_fl fn (by grind) (by grind)
  have hρ1 : 48 / 100 ≤ ρ := le_of_sq r1 (by unfold Nr at r2; grind)
  have hρ2 : ρ ≤ 300000000 := le_of_sq (by decide +kernel) (by unfold Nr at r2; grind)
  have w1 : 47 / 100 ≤ R .f32 (rootN q) := by unfold Nr at r3; grind
  have w2 : R .f32 (rootN q) ≤ 400000000 := by unfold Nr at r3; grind
  generalize rootN q = w at *
  have p1 := Rat.mul_le_mul_of_nonneg_right q0 (show 0 ≤ R .f32 w by grind)
  have p2 := Rat.mul_le_mul_of_nonneg_right q1 (show 0 ≤ R .f32 w by grind)
  have bp : Bd (R .f32 q * R .f32 w) (R .f32 q * R .f32 w) := by unfold Bd; constructor <;> grind
  have fp := fmul_fl fn rn (bp.mono (by grind))
  have ep := fp.err bp
  have pn := fp.1
  generalize fmul .f32 q w = z at *
  have z0 : 11 / 100 ≤ R .f32 z := by unfold Nr at ep; grind
  have hm2 := hm.2
  have hX : R .f32 m / R .f32 z * R .f32 z = R .f32 m := Rat.div_mul_cancel (by grind)
  have hX0 : 0 ≤ R .f32 m / R .f32 z := by
    refine Rat.le_of_mul_le_mul_right (c := R .f32 z) ?_ (by grind)
    grind
  have hX1 : R .f32 m / R .f32 z ≤ 19 := by
    refine Rat.le_of_mul_le_mul_right (c := R .f32 z) ?_ (by grind)
    grind
  generalize R .f32 m / R .f32 z = X at *
  have bX : Bd X 19 := by unfold Bd; constructor <;> grind
  obtain ⟨t1, t2⟩ := quot_fl hm.1 pn (by grind) hX (bX.mono (by grind))
  have t3 := t2 19 bX
  have hU : U .f32 = 1 / 16777216 := rfl
  rw [hU] at t3
  exact ⟨fn, by grind, t1, by unfold Nr Bd at *; constructor <;> grind⟩

structure BL (l : List Body) (X V : Rat) : Prop where
  len : l.length ≤ 4
  at' : ∀ j, j < l.length → VecA (l.getD j default).At X
  speed : ∀ j, j < l.length → VecA (l.getD j default).Speed V
  mass : ∀ j, j < l.length → I .f32 (l.getD j default).Mass (some (0, 2))

theorem BL.ok {l : List Body} {X V : Rat} (h : BL l X V) : okL l = true := by
  refine okL_of (by have := h.len; omega) fun j hj => ?_
  unfold okB
  have hm := h.mass j hj
  rw [(h.at' j hj).fin, (h.speed j hj).fin, hm.1, I.ge hm k_zero32 (by decide +kernel)]
  rfl

theorem Nat4 {n : Nat} (h : n ≤ 4) : (n : Rat) ≤ 4 := by exact_mod_cast h

theorem zero_A : Ab 0 0 := ⟨by decide +kernel, by unfold Bd; constructor <;> decide +kernel⟩

theorem pull_A {l : List Body} {X V : Rat} (h : BL l X V) (h1 : 1 ≤ X) (hX : X ≤ 1000000) {i : Nat} (hi : i < l.length) : ∀ j, j ≤ l.length → VecA (pullF l ((i : Nat) : Int) (l.getD i default).At 1056964608 j) ((j : Rat) * (41 * X))
  | 0, _ => by
    have e : ((0 : Nat) : Rat) * (41 * X) = 0 := by simp
    rw [e]
    exact ⟨zero_A, zero_A, zero_A⟩
  | j + 1, hj => by
    have ih := pull_A h h1 hX hi j (by omega)
    have hd := less_A (K := 2001 / 1000 * X) (h.at' j (by omega)) (h.at' i hi) (by grind) (by grind)
    obtain ⟨q1, q2, q3⟩ := share_A hd (by grind) (h.mass j (by omega))
    have ht := scale_A (K := 402 / 10 * X) hd q3 (by grind) (by grind)
    have h4 := h.len
    have j4 : (j : Rat) ≤ 4 := Nat4 (by omega)
    have j0 : (0 : Rat) ≤ j := by exact_mod_cast Nat.zero_le j
    have m1 := Rat.mul_le_mul_of_nonneg_right j4 (show 0 ≤ 41 * X by grind)
    have m2 := Rat.mul_le_mul_of_nonneg_right j0 (show 0 ≤ 41 * X by grind)
    have e : (((j + 1 : Nat) : Rat)) * (41 * X) = (j : Rat) * (41 * X) + 41 * X := by push_cast; grind
    rw [e]
    unfold pullF
    split
    · exact add_A ih ht (by grind) (by grind)
    · exact ih.mono (by grind)

theorem force_A {l : List Body} {X V : Rat} (h : BL l X V) (h1 : 1 ≤ X) (hX : X ≤ 1000000) {i : Nat} (hi : i < l.length) : VecA (forceV l 1056964608 i) (164 * X) := by
  have := pull_A h h1 hX hi l.length (Nat.le_refl _)
  refine this.mono ?_
  have j4 : ((l.length : Nat) : Rat) ≤ 4 := Nat4 h.len
  have := Rat.mul_le_mul_of_nonneg_right j4 (show 0 ≤ 41 * X by grind)
  grind

theorem tick6 : halfT 1031798784 = 1023410176 ∧ Ab 1023410176 (1 / 32) ∧ Ab 1031798784 (1 / 16) := ⟨by decide +kernel, ⟨by decide +kernel, by unfold Bd; constructor <;> decide +kernel⟩, ⟨by decide +kernel, by unfold Bd; constructor <;> decide +kernel⟩⟩

theorem kick_A {l : List Body} {X V : Rat} (h : BL l X V) (h1 : 1 ≤ X) (hX : X ≤ 1000000) (hV : V ≤ 100000000) {W : Rat} (hW : V * (1001 / 1000) + 52 / 10 * X + 1 ≤ W) (hW2 : W ≤ 1000000000000) : BL (kickL l (forceL l 1056964608) 1023410176) X W := by
  have hl := kickL_len l (forceL l 1056964608) 1023410176
  have V0 : ∀ j, j < l.length → 0 ≤ V := fun j hj => (h.speed j hj).1.2.nonneg
  refine ⟨by rw [hl]; exact h.len, fun j hj => ?_, fun j hj => ?_, fun j hj => ?_⟩
  · rw [hl] at hj
    rw [kickL_get hj]
    exact h.at' j hj
  · rw [hl] at hj
    rw [kickL_get hj, forceL_get hj]
    have := V0 j hj
    have s := scale_A (K := 515 / 100 * X) (force_A h h1 hX hj) tick6.2.1 (by grind) (by grind)
    exact add_A (h.speed j hj) s (by grind) (by grind)
  · rw [hl] at hj
    rw [kickL_get hj]
    exact h.mass j hj

theorem move_A {l : List Body} {X V : Rat} (h : BL l X V) (h1 : 1 ≤ X) (hV1 : 1 ≤ V) (hX : X ≤ 1000000) (hV : V ≤ 1000000000000) {Y : Rat} (hY : X * (1001 / 1000) + V * (63 / 1000) + 1 ≤ Y) (hY2 : Y ≤ 1000000000000) : BL (moveL l 1031798784) Y V := by
  have hl := moveL_len l 1031798784
  refine ⟨by rw [hl]; exact h.len, fun j hj => ?_, fun j hj => ?_, fun j hj => ?_⟩
  · rw [hl] at hj
    rw [moveL_get hj]
    have s := scale_A (K := 626 / 10000 * V + 1 / 1000) (h.speed j hj) tick6.2.2 (by grind) (by grind)
    exact add_A (h.at' j hj) s (by grind) (by grind)
  · rw [hl] at hj
    rw [moveL_get hj]
    exact h.speed j hj
  · rw [hl] at hj
    rw [moveL_get hj]
    exact h.mass j hj

theorem step_A {l : List Body} {X V W Y Z : Rat} (h : BL l X V) (h1 : 1 ≤ X) (hX : X ≤ 1000000) (hV1 : 1 ≤ V) (hV : V ≤ 100000000) (hW : V * (1001 / 1000) + 52 / 10 * X + 1 ≤ W) (hW2 : W ≤ 100000000) (hY : X * (1001 / 1000) + W * (63 / 1000) + 1 ≤ Y) (hY2 : Y ≤ 1000000) (hZ : W * (1001 / 1000) + 52 / 10 * Y + 1 ≤ Z) (hZ2 : Z ≤ 100000000) :
    ∃ r, stepP l 1056964608 1031798784 = .inr r ∧ BL r Y Z ∧ r.length = l.length := by
  have a := kick_A h h1 hX hV hW (by grind)
  have b := move_A a h1 (by grind) hX (by grind) hY (by grind)
  have c := kick_A b (by grind) hY2 hW2 hZ (by grind)
  have g := stepP_good (l := l) (c := 1056964608) (t := 1031798784) (by have := h.len; omega) (fun j hj => (force_A h h1 hX hj).fin) (by rw [tick6.1]; exact b.ok) (fun j hj => by
    rw [tick6.1]
    exact (force_A b (by grind) hY2 (by rw [moveL_len, kickL_len]; exact hj)).fin) (by rw [tick6.1]; exact c.ok)
  rw [tick6.1] at g
  exact ⟨_, g, c, by rw [kickL_len, moveL_len, kickL_len]⟩

theorem apart_A {l : List Body} {X V : Rat} (h : BL l X V) (hX : X ≤ 1000000) (h1 : 1 ≤ X) : Apart l := by
  intro p q hp hq
  have hd := less_A (K := 2001 / 1000 * X) (h.at' q hq) (h.at' p (by omega)) (by grind) (by grind)
  unfold sizeP
  rw [Size_eq]
  have sq := fun {x : Nat} (g : Ab x (2001 / 1000 * X)) => sq_bd g.2
  have s1 := sq hd.1
  have s2 := sq hd.2.1
  have s3 := sq hd.2.2
  have hXX : 2001 / 1000 * X * (2001 / 1000 * X) ≤ 5000000000000 := by
    have := sq_le (a := 2001 / 1000 * X) (b := 2001000) (by grind) (by grind)
    grind
  exact (size_fl hd.1.1 hd.2.1.1 hd.2.2.1 (B := 15000000000000) (by grind) (by decide +kernel)).2.2.1

/-- Six steps. -/
theorem six_A {l : List Body} (h : BL l 8 2) : ∀ k, k ≤ 6 → ∃ r, stateP l 1056964608 1031798784 k = .inr r ∧ Apart r := by
  have s0 : stateP l 1056964608 1031798784 0 = .inr l := rfl
  have nx : ∀ {k : Nat} {r w : List Body}, stateP l 1056964608 1031798784 k = .inr r → stepP r 1056964608 1031798784 = .inr w → stateP l 1056964608 1031798784 (k + 1) = .inr w := fun {k r w} a b => by
    show (match stateP l 1056964608 1031798784 k with | .inl _ => (.inl () : Unit ⊕ List Body) | .inr r => stepP r 1056964608 1031798784) = _
    rw [a]
    exact b
  obtain ⟨r1, a1, b1, -⟩ := step_A (W := 50) (Y := 13) (Z := 120) h (by decide +kernel) (by decide +kernel) (by decide +kernel) (by decide +kernel) (by decide +kernel) (by decide +kernel) (by decide +kernel) (by decide +kernel) (by decide +kernel) (by decide +kernel)
  obtain ⟨r2, a2, b2, -⟩ := step_A (W := 200) (Y := 30) (Z := 400) b1 (by decide +kernel) (by decide +kernel) (by decide +kernel) (by decide +kernel) (by decide +kernel) (by decide +kernel) (by decide +kernel) (by decide +kernel) (by decide +kernel) (by decide +kernel)
  obtain ⟨r3, a3, b3, -⟩ := step_A (W := 600) (Y := 80) (Z := 1100) b2 (by decide +kernel) (by decide +kernel) (by decide +kernel) (by decide +kernel) (by decide +kernel) (by decide +kernel) (by decide +kernel) (by decide +kernel) (by decide +kernel) (by decide +kernel)
  obtain ⟨r4, a4, b4, -⟩ := step_A (W := 1600) (Y := 200) (Z := 2700) b3 (by decide +kernel) (by decide +kernel) (by decide +kernel) (by decide +kernel) (by decide +kernel) (by decide +kernel) (by decide +kernel) (by decide +kernel) (by decide +kernel) (by decide +kernel)
  obtain ⟨r5, a5, b5, -⟩ := step_A (W := 3800) (Y := 450) (Z := 6200) b4 (by decide +kernel) (by decide +kernel) (by decide +kernel) (by decide +kernel) (by decide +kernel) (by decide +kernel) (by decide +kernel) (by decide +kernel) (by decide +kernel) (by decide +kernel)
  obtain ⟨r6, a6, b6, -⟩ := step_A (W := 8600) (Y := 1000) (Z := 14000) b5 (by decide +kernel) (by decide +kernel) (by decide +kernel) (by decide +kernel) (by decide +kernel) (by decide +kernel) (by decide +kernel) (by decide +kernel) (by decide +kernel) (by decide +kernel)
  have c1 := nx s0 a1
  have c2 := nx c1 a2
  have c3 := nx c2 a3
  have c4 := nx c3 a4
  have c5 := nx c4 a5
  have c6 := nx c5 a6
  intro k hk
  have : k = 0 ∨ k = 1 ∨ k = 2 ∨ k = 3 ∨ k = 4 ∨ k = 5 ∨ k = 6 := by omega
  rcases this with rfl | rfl | rfl | rfl | rfl | rfl | rfl
  · exact ⟨l, s0, apart_A h (by decide +kernel) (by decide +kernel)⟩
  · exact ⟨r1, c1, apart_A b1 (by decide +kernel) (by decide +kernel)⟩
  · exact ⟨r2, c2, apart_A b2 (by decide +kernel) (by decide +kernel)⟩
  · exact ⟨r3, c3, apart_A b3 (by decide +kernel) (by decide +kernel)⟩
  · exact ⟨r4, c4, apart_A b4 (by decide +kernel) (by decide +kernel)⟩
  · exact ⟨r5, c5, apart_A b5 (by decide +kernel) (by decide +kernel)⟩
  · exact ⟨r6, c6, apart_A b6 (by decide +kernel) (by decide +kernel)⟩

end Go.Proofs.Ytilfdpllleninaa
