/- What is a multiple of 1/512; the sines of these, by a table (numbers alone). -/
import Derived.Test.YtkhjcoekmamlaaaArc
namespace Go.Proofs.Ytkhjcoekmamlaaa
open Ieee
set_option linter.unusedVariables false
set_option linter.unusedSimpArgs false

theorem mul_cancel {a b c : Rat} (hc : 0 < c) (h : a * c = b * c) : a = b := by
  refine Rat.le_antisymm ?_ ?_
  · rw [← Rat.not_lt]
    intro hl
    have := (Rat.mul_lt_mul_right hc).2 hl
    grind
  · rw [← Rat.not_lt]
    intro hl
    have := (Rat.mul_lt_mul_right hc).2 hl
    grind

/-! ## Multiples of 1/512 -/

def Q (k : FloatKind) (x : Nat) (n : Int) : Prop := isNum k x = true ∧ R k x = (n : Rat) / 512

theorem place9 (k : FloatKind) : (((2 ^ (-9 - lplace k).toNat : Nat)) : Rat) * 2 ^ lplace k = 1 / 512 := by cases k <;> decide +kernel

theorem Q_wh {k : FloatKind} {x : Nat} {n : Int} : Wh k (-9) x n ↔ Q k x n := by
  have e := place9 k
  have hp := two_pos (lplace k)
  unfold Wh Q
  constructor
  · rintro ⟨h1, h2⟩
    refine ⟨h1, ?_⟩
    rw [R_V h1, h2]
    generalize (2 ^ (-9 - lplace k).toNat : Nat) = N at *
    have e2 : ((n * ((N : Nat) : Int) : Int) : Rat) = (n : Rat) * (N : Rat) := by push_cast; rfl
    rw [e2, Rat.mul_assoc, e]
    grind
  · rintro ⟨h1, h2⟩
    refine ⟨h1, ?_⟩
    rw [R_V h1] at h2
    generalize (2 ^ (-9 - lplace k).toNat : Nat) = N at *
    have e2 : ((n * ((N : Nat) : Int) : Int) : Rat) = (n : Rat) * (N : Rat) := by push_cast; rfl
    have e3 : (V k x : Rat) = ((n * ((N : Nat) : Int) : Int) : Rat) := by
      refine mul_cancel hp ?_
      rw [h2, e2, Rat.mul_assoc, e]
      grind
    exact_mod_cast e3

theorem Q.add {k : FloatKind} {x y : Nat} {m n : Int} (hx : Q k x m) (hy : Q k y n) (h : (m + n).natAbs < 16777216) : Q k (fadd k x y) (m + n) :=
  Q_wh.1 (add_at (by cases k <;> decide) (by cases k <;> decide) (Q_wh.2 hx) (Q_wh.2 hy) (Nat.lt_of_lt_of_le h (by cases k <;> decide)))
theorem Q.sub {k : FloatKind} {x y : Nat} {m n : Int} (hx : Q k x m) (hy : Q k y n) (h : (m - n).natAbs < 16777216) : Q k (fsub k x y) (m - n) :=
  Q_wh.1 (sub_at (by cases k <;> decide) (by cases k <;> decide) (Q_wh.2 hx) (Q_wh.2 hy) (Nat.lt_of_lt_of_le h (by cases k <;> decide)))
theorem Q.up {x : Nat} {n : Int} (h : Q .f32 x n) : Q .f64 (fconv .f32 x .f64) n := ⟨(up_R h.1).1, by rw [(up_R h.1).2]; exact h.2⟩
theorem Q.to {k : FloatKind} {x : Nat} {m n : Int} (h : Q k x m) (e : m = n) : Q k x n := e ▸ h

theorem q_one : Q .f64 4607182418800017408 512 := ⟨by decide +kernel, by decide +kernel⟩
theorem q_half : Q .f64 4602678819172646912 256 := ⟨by decide +kernel, by decide +kernel⟩
theorem q_quarter : Q .f64 4598175219545276416 128 := ⟨by decide +kernel, by decide +kernel⟩
theorem q_zero : Q .f64 0 0 := ⟨by decide +kernel, by decide +kernel⟩

theorem Q.lt {k : FloatKind} {x y : Nat} {m n : Int} (hx : Q k x m) (hy : Q k y n) : flt k x y = decide (m < n) := by
  rw [flt_R hx.1 hy.1, hx.2, hy.2]
  refine decide_eq_decide.2 ⟨fun h => ?_, fun h => ?_⟩
  · have : (m : Rat) < (n : Rat) := by grind
    exact_mod_cast this
  · have : (m : Rat) < (n : Rat) := by exact_mod_cast h
    grind
theorem Q.gt {k : FloatKind} {x y : Nat} {m n : Int} (hx : Q k x m) (hy : Q k y n) : fgt k x y = decide (n < m) := by
  rw [fgt_R hx.1 hy.1, hx.2, hy.2]
  refine decide_eq_decide.2 ⟨fun h => ?_, fun h => ?_⟩
  · have : (n : Rat) < (m : Rat) := by grind
    exact_mod_cast this
  · have : (n : Rat) < (m : Rat) := by exact_mod_cast h
    grind
theorem Q.ge {k : FloatKind} {x y : Nat} {m n : Int} (hx : Q k x m) (hy : Q k y n) : fge k x y = decide (n ≤ m) := by
  rw [fge_R hx.1 hy.1, hx.2, hy.2]
  refine decide_eq_decide.2 ⟨fun h => ?_, fun h => ?_⟩
  · have : (n : Rat) ≤ (m : Rat) := by grind
    exact_mod_cast this
  · have : (n : Rat) ≤ (m : Rat) := by exact_mod_cast h
    grind

/-- Whole turns are taken away exactly. -/
theorem Q.left {x : Nat} {n : Int} (h : Q .f64 x n) (hn : n.natAbs < 4000000) : Q .f64 (leftOf x) (n % 512) := by
  have b1 := Rat.intCast_le_intCast.2 (show (-4000000 : Int) ≤ n by omega)
  have b2 := Rat.intCast_le_intCast.2 (show n ≤ (4000000 : Int) by omega)
  rw [show (((-4000000 : Int)) : Rat) = -4000000 by decide +kernel] at b1
  rw [show (((4000000 : Int)) : Rat) = 4000000 by decide +kernel] at b2
  obtain ⟨-, w2, w3, w4, w5⟩ := whole_R h.1 (by rw [h.2]; unfold Bd; constructor <;> grind)
  rw [h.2] at w4 w5
  unfold leftOf
  generalize ftoInt .f64 x = i at *
  have qi : Q .f64 (fofInt .f64 i) (512 * i) := ⟨w2, by rw [w3]; push_cast; grind⟩
  have e5 : ((n - 512 * i : Int) : Rat) = (n : Rat) - 512 * (i : Rat) := by push_cast; rfl
  have c1 : n - 512 * i < 512 := by
    refine Rat.intCast_lt_intCast.1 ?_
    rw [e5, show (((512 : Int)) : Rat) = 512 by decide +kernel]
    grind
  have c2 : -512 < n - 512 * i := by
    refine Rat.intCast_lt_intCast.1 ?_
    rw [e5, show (((-512 : Int)) : Rat) = -512 by decide +kernel]
    grind
  have qs := h.sub qi (by omega)
  rw [qs.lt q_zero]
  by_cases hl : n - 512 * i < 0
  · rw [decide_eq_true hl]
    exact (qs.add q_one (by omega)).to (by omega)
  · rw [decide_eq_false hl]
    exact qs.to (by omega)

/-! ## Products of equal numbers -/

theorem rat_nat {m n : Nat} {p q : Int} (h : (m : Rat) * 2 ^ p = (n : Rat) * 2 ^ q) : m * 2 ^ (p - min p q).toNat = n * 2 ^ (q - min p q).toNat := by
  have e1 : (2 : Rat) ^ p = ((2 ^ (p - min p q).toNat : Nat) : Rat) * 2 ^ (min p q) := by
    rw [← two_nat, ← two_add]
    congr 1
    omega
  have e2 : (2 : Rat) ^ q = ((2 ^ (q - min p q).toNat : Nat) : Rat) * 2 ^ (min p q) := by
    rw [← two_nat, ← two_add]
    congr 1
    omega
  rw [e1, e2, ← Rat.mul_assoc, ← Rat.mul_assoc] at h
  have h2 := mul_cancel (two_pos (min p q)) h
  exact_mod_cast h2

theorem fmul_same {k : FloatKind} {x x' y : Nat} (hx : isNum k x = true) (hx' : isNum k x' = true) (hy : isNum k y = true) (h : R k x = R k x') (h0 : R k x ≠ 0) : fmul k x y = fmul k x' y := by
  obtain ⟨s, m, p, hx⟩ := isNum_iff.1 hx
  obtain ⟨s', m', p', hx'⟩ := isNum_iff.1 hx'
  obtain ⟨u, c, q, hy⟩ := isNum_iff.1 hy
  have e1 : R k x = rv (.number s m p) := by unfold Proofs.Ytkhjcoekmamlaaa.R; rw [hx]
  have e2 : R k x' = rv (.number s' m' p') := by unfold Proofs.Ytkhjcoekmamlaaa.R; rw [hx']
  have g1 := mag_nonneg m p
  have g2 := mag_nonneg m' p'
  have hs : s = s' ∧ (m : Rat) * 2 ^ p = (m' : Rat) * 2 ^ p' := by
    rw [e1, e2, rv_sign, rv_sign] at h
    rw [e1, rv_sign] at h0
    cases s <;> cases s' <;> simp at h h0
    · exact ⟨rfl, by grind⟩
    · grind
    · grind
    · exact ⟨rfl, by grind⟩
  obtain ⟨rfl, hm⟩ := hs
  have hn := rat_nat hm
  unfold fmul Format.mul
  rw [hx, hx', hy]
  show canon k (k.format.nearest (s ^^ u) (m * c) (p + q)) = canon k (k.format.nearest (s ^^ u) (m' * c) (p' + q))
  congr 1
  refine nearest_same ?_
  have w1 : (p + q - min (p + q) (p' + q)).toNat = (p - min p p').toNat := by omega
  have w2 : (p' + q - min (p + q) (p' + q)).toNat = (p' - min p p').toNat := by omega
  rw [w1, w2, Nat.mul_right_comm, hn, Nat.mul_right_comm]

theorem word_zero64 (s : Bool) (p : Int) : canon .f64 (FloatKind.f64.format.nearest s 0 p) = 0 ∨ canon .f64 (FloatKind.f64.format.nearest s 0 p) = 9223372036854775808 := by
  have hw : FloatKind.f64.format.nearest s 0 p = FloatKind.f64.format.word s 0 := by unfold Format.nearest; rw [if_pos rfl]
  rw [hw]
  cases s
  · exact .inl (by decide +kernel)
  · exact .inr (by decide +kernel)

theorem zero_mant {s : Bool} {m : Nat} {p : Int} (h : rv (.number s m p) = 0) : m = 0 := by
  by_cases g : m = 0
  · exact g
  · have h1 : (0 : Rat) < m := by exact_mod_cast Nat.pos_of_ne_zero g
    have h2 := Rat.mul_pos h1 (two_pos p)
    rw [rv_sign] at h
    cases s <;> simp at h <;> grind

theorem fmul_zero64 {x y : Nat} (hx : isNum .f64 x = true) (hy : isNum .f64 y = true) (h : R .f64 x = 0) : fmul .f64 x y = 0 ∨ fmul .f64 x y = 9223372036854775808 := by
  obtain ⟨s, a, p, hx⟩ := isNum_iff.1 hx
  obtain ⟨u, c, q, hy⟩ := isNum_iff.1 hy
  have e1 : R .f64 x = rv (.number s a p) := by unfold Proofs.Ytkhjcoekmamlaaa.R; rw [hx]
  rw [e1] at h
  unfold fmul Format.mul
  rw [hx, hy, zero_mant h]
  have := word_zero64 (s ^^ u) (p + q)
  show canon .f64 (FloatKind.f64.format.nearest (s ^^ u) (0 * c) (p + q)) = 0 ∨ canon .f64 (FloatKind.f64.format.nearest (s ^^ u) (0 * c) (p + q)) = 9223372036854775808
  rw [Nat.zero_mul]
  exact this

/-! ## The table -/

def pTab : List Nat := [0, 4578227681973159812, 4582730748936808062, 4585465300892538317, 4587232218149935124, 4588998070480937183, 4589965306122607093, 4590846768565625880, 4591727299969791020, 4592606767730311892, 4593485039402578702, 4594016801320007030, 4594454542771183930, 4594891488091520602, 4595327571478659014, 4595762727260045104, 4596196889902818826, 4596629994023683153, 4597061974398750563, 4597492765973365521, 4597922303871901467, 4598262871476403630, 4598476289818621559, 4598688984595225405, 4598900923775164165, 4599112075441176913, 4599322407794599426, 4599531889160152938, 4599740487990714333, 4599948172872067014, 4600154912527631774, 4600360675823176934, 4600565431771507043, 4600769149537129431, 4600971798440897930, 4601173347964633033, 4601373767755717824, 4601573027631668967, 4601771097584682078, 4601967947786150793, 4602163548591158843, 4602357870542944469, 4602550884377336507, 4602710690099904183, 4602805845399633901, 4602900303344142734, 4602994049708411682, 4603087070374583113, 4603179351334086856, 4603270878689749848, 4603361638657888991, 4603451617570386921, 4603540801876750389, 4603629178146150899, 4603716733069447353, 4603803453461190356, 4603889326261607894, 4603974338538572088, 4604058477489546729, 4604141730443515286, 4604224084862889119, 4604305528345395596, 4604386048625945822, 4604465633578481725, 4604544271217802188, 4604621949701367982, 4604698657331085206, 4604774382555066977, 4604849113969373103, 4604922840319727472, 4604995550503212910, 4605067233569943231, 4605137878724712256, 4605207475328619533, 4605276012900672507, 4605343481119364929, 4605409869824231232, 4605475169017376660, 4605539368864982913, 4605602459698789090, 4605664432017547683, 4605725276488455441, 4605784983948558847, 4605843545406134034, 4605900952042040894, 4605957195211051218, 4606012266443150634, 4606066157444814153, 4606118860100255152, 4606170366472647580, 4606220668805321205, 4606269759522929757, 4606317631232591731, 4606364276725003740, 4606409688975526203, 4606453861145241228, 4606496786581982536, 4606538458821337245, 4606578871587619390, 4606618018794815021, 4606655894547498728, 4606692493141721475, 4606727809065869591, 4606761837001494803, 4606794571824115171, 4606826008603986813, 4606856142606846318, 4606884969294623696, 4606912484326125799, 4606938683557690093, 4606963563043808671, 4606987119037722440, 4607009347991985359, 4607030246558998684, 4607049811591515092, 4607068040143112654, 4607084929468638547, 4607100477024622473, 4607114680469659686, 4607127537664763613, 4607139046673687962, 4607149205763218320, 4607158013403433176, 4607165468267934309, 4607171569234046548, 4607176315382986839, 4607179706000002607, 4607181740574479406, 4607182418800017604]
def sTab : List Nat := [0, 1011420816, 1019808432, 1024901932, 1028193072, 1031482228, 1033283845, 1034925696, 1036565814, 1038203950, 1039839859, 1040830342, 1041645699, 1042459574, 1043271842, 1044082383, 1044891074, 1045697793, 1046502419, 1047304831, 1048104908, 1048739264, 1049136787, 1049532962, 1049927729, 1050321030, 1050712805, 1051102994, 1051491540, 1051878383, 1052263466, 1052646730, 1053028117, 1053407571, 1053785034, 1054160449, 1054533760, 1054904911, 1055273845, 1055640507, 1056004842, 1056366795, 1056726311, 1057023972, 1057201213, 1057377154, 1057551771, 1057725035, 1057896922, 1058067405, 1058236458, 1058404057, 1058570176, 1058734790, 1058897873, 1059059403, 1059219353, 1059377701, 1059534422, 1059689493, 1059842890, 1059994590, 1060144571, 1060292809, 1060439283, 1060583971, 1060726850, 1060867899, 1061007097, 1061144423, 1061279856, 1061413376, 1061544963, 1061674597, 1061802258, 1061927928, 1062051586, 1062173215, 1062292797, 1062410313, 1062525745, 1062639077, 1062750291, 1062859370, 1062966298, 1063071059, 1063173637, 1063274017, 1063372184, 1063468122, 1063561817, 1063653256, 1063742424, 1063829308, 1063913895, 1063996172, 1064076126, 1064153747, 1064229022, 1064301939, 1064372488, 1064440658, 1064506439, 1064569821, 1064630795, 1064689350, 1064745479, 1064799173, 1064850424, 1064899224, 1064945565, 1064989442, 1065030846, 1065069773, 1065106216, 1065140169, 1065171628, 1065200588, 1065227044, 1065250992, 1065272429, 1065291352, 1065307757, 1065321643, 1065333007, 1065341847, 1065348163, 1065351953, 1065353216]
def pT (j : Nat) : Nat := pTab.getD j 0
def sT (j : Nat) : Nat := sTab.getD j 0
def hN (k : Nat) : Nat := fdiv .f64 (fofInt .f64 (k : Int)) 4647714815446351872
def pN (k : Nat) : Nat := poly8 (fmul .f64 (hN k) 4618760256179416344)
/-- The sine of j parts of 512, as it is computed. -/
def S (j : Nat) : Rat := R .f32 (sT j)

theorem c_h : ∀ j : Fin 129, (isNum .f64 (hN j.val) && decide (R .f64 (hN j.val) = ((j.val : Int) : Rat) / 512)) = true := by decide +kernel
theorem c_p : ∀ j : Fin 129, (pN j.val == pT j.val) = true := by decide +kernel
def polB (v s : Nat) : Bool := (fconv .f64 v .f32 == s) && (isNum .f32 s && ((fconv .f64 (fneg .f64 v) .f32 == s + 2147483648) && (isNum .f32 (s + 2147483648) && decide (R .f32 (s + 2147483648) = -R .f32 s))))
theorem c_s : ∀ j : Fin 129, polB (pT j.val) (sT j.val) = true := by decide +kernel
theorem c_z : polB (poly8 0) 0 = true ∧ (fconv .f64 (poly8 9223372036854775808) .f32 = 2147483648 ∧ isNum .f32 2147483648 = true ∧ R .f32 2147483648 = 0 ∧ fconv .f64 (fneg .f64 (poly8 9223372036854775808)) .f32 = 0 ∧ isNum .f32 0 = true ∧ R .f32 0 = 0) := by decide +kernel
theorem S_zero : S 0 = 0 := by decide +kernel

structure Pol (v : Nat) (q : Rat) : Prop where
  n1 : isNum .f32 (fconv .f64 v .f32) = true
  r1 : R .f32 (fconv .f64 v .f32) = q
  n2 : isNum .f32 (fconv .f64 (fneg .f64 v) .f32) = true
  r2 : R .f32 (fconv .f64 (fneg .f64 v) .f32) = -q

theorem pol_B {v s : Nat} (h : polB v s = true) : Pol v (R .f32 s) := by
  unfold polB at h
  simp only [Bool.and_eq_true, beq_iff_eq, decide_eq_true_eq] at h
  obtain ⟨h1, h2, h3, h4, h5⟩ := h
  exact ⟨by rw [h1]; exact h2, by rw [h1], by rw [h3]; exact h4, by rw [h3]; exact h5⟩

theorem pol_of {g : Nat} {j : Nat} (hj : j ≤ 128) (h : Q .f64 g (j : Int)) : Pol (poly8 (fmul .f64 g 4618760256179416344)) (S j) := by
  have kt : isNum .f64 4618760256179416344 = true := by decide +kernel
  rcases Nat.eq_zero_or_pos j with rfl | hp
  · rw [S_zero]
    have h0 : R .f64 g = 0 := by rw [h.2]; decide +kernel
    obtain ⟨z1, z2, z3, z4, z5, z6, z7⟩ := c_z
    rcases fmul_zero64 h.1 kt h0 with e | e <;> rw [e]
    · have := pol_B z1
      rw [z7] at this
      exact this
    · exact ⟨by rw [z2]; exact z3, by rw [z2]; exact z4, by rw [z5]; exact z6, by rw [z5, z7]; decide +kernel⟩
  · have ch := c_h ⟨j, by omega⟩
    rw [Bool.and_eq_true, decide_eq_true_eq] at ch
    have hne : R .f64 g ≠ 0 := by
      rw [h.2]
      have : (0 : Rat) < ((j : Int) : Rat) := by exact_mod_cast hp
      grind
    have e1 := fmul_same h.1 ch.1 kt (by rw [h.2, ch.2]) hne
    have e2 := c_p ⟨j, by omega⟩
    rw [beq_iff_eq] at e2
    have e3 : poly8 (fmul .f64 g 4618760256179416344) = pT j := by rw [e1]; exact e2
    rw [e3]
    exact pol_B (c_s ⟨j, by omega⟩)

/-- The sine of k parts of 512. -/
def sinV (k : Nat) : Rat := if k ≤ 128 then S k else if k < 256 then S (256 - k) else if k ≤ 384 then -S (k - 256) else -S (512 - k)

theorem sine_Q {f k : Nat} (hk : k < 512) (h : Q .f64 f (k : Int)) : isNum .f32 (fconv .f64 (sineOf f) .f32) = true ∧ R .f32 (fconv .f64 (sineOf f) .f32) = sinV k := by
  unfold sineOf sinV
  rw [h.ge q_half]
  by_cases h1 : (256 : Int) ≤ (k : Int)
  · rw [decide_eq_true h1]
    have hg := h.sub q_half (by omega)
    simp only
    rw [hg.gt q_quarter, if_neg (show ¬ k ≤ 128 by omega), if_neg (show ¬ k < 256 by omega)]
    by_cases h2 : (128 : Int) < (k : Int) - 256
    · rw [decide_eq_true h2, if_neg (show ¬ k ≤ 384 by omega)]
      have p := pol_of (g := fsub .f64 4602678819172646912 (fsub .f64 f 4602678819172646912)) (j := 512 - k) (by omega) ((q_half.sub hg (by omega)).to (by omega))
      exact ⟨p.n2, p.r2⟩
    · rw [decide_eq_false h2, if_pos (show k ≤ 384 by omega)]
      have p := pol_of (g := fsub .f64 f 4602678819172646912) (j := k - 256) (by omega) (hg.to (by omega))
      exact ⟨p.n2, p.r2⟩
  · rw [decide_eq_false h1]
    simp only
    rw [h.gt q_quarter]
    by_cases h2 : (128 : Int) < (k : Int)
    · rw [decide_eq_true h2, if_neg (show ¬ k ≤ 128 by omega), if_pos (show k < 256 by omega)]
      have p := pol_of (g := fsub .f64 4602678819172646912 f) (j := 256 - k) (by omega) ((q_half.sub h (by omega)).to (by omega))
      exact ⟨p.n1, p.r1⟩
    · rw [decide_eq_false h2, if_pos (show k ≤ 128 by omega)]
      have p := pol_of (j := k) (by omega) h
      exact ⟨p.n1, p.r1⟩

/-! ## Directions -/

def uT (j : Nat) : Nat := fconv .f32 (sT j) .f64
theorem Ref.swap {s c : Nat} {q : Rat} (h : Ref s c q) : Ref c s (1 / 4 - q) := by
  have a := h.q0
  have b := h.q1
  refine ⟨h.cN, h.sN, h.c0, h.s0, h.c1, h.s1, by grind, by grind, ?_, ?_, ?_⟩
  · rcases h.high with h | h
    · exact .inl h
    · exact .inr (by rw [h]; decide +kernel)
  · rcases h.low with h | h
    · exact .inl h
    · exact .inr (by rw [h]; decide +kernel)
  · have e : 1 / 4 - (1 / 4 - q) = q := by grind
    rcases h.arcs with ⟨h1, h2, h3⟩ | ⟨h1, h2, h3⟩ | ⟨h1, h2, h3, h4⟩
    · exact .inr (.inl ⟨h1, h2, by rw [e]; exact h3⟩)
    · exact .inl ⟨h1, h2, h3⟩
    · subst h1
      refine .inr (.inr ⟨rfl, h2, by rw [h3]; decide +kernel, ?_⟩)
      have e2 : 1 / 4 - q = q := by rw [h3]; decide +kernel
      rw [e2]
      exact h4

def refB (j : Nat) : Bool :=
  (isNum .f64 (uT j) && (isNum .f64 (uT (128 - j)) && (decide (0 ≤ R .f64 (uT j)) && (decide (0 ≤ R .f64 (uT (128 - j))) && (decide (R .f64 (uT j) ≤ 101 / 100) && (decide (R .f64 (uT (128 - j)) ≤ 101 / 100) &&
  ((decide (1 / 100 ≤ R .f64 (uT j)) || j == 0) && (decide (1 / 100 ≤ R .f64 (uT (128 - j))))))))))) && (decide (7 / 10 ≤ R .f64 (uT (128 - j))) &&
  ((decide (R .f64 (uT j) + 1 / 200 ≤ R .f64 (uT (128 - j))) || j == 64) &&
  (decide (-(1 / 1000000) ≤ R .f64 (arcA (fdiv .f64 (uT j) (uT (128 - j)))) - ((j : Int) : Rat) / 512) && decide (R .f64 (arcA (fdiv .f64 (uT j) (uT (128 - j)))) - ((j : Int) : Rat) / 512 ≤ 1 / 1000000))))
theorem c_ref : ∀ j : Fin 65, refB j.val = true := by decide +kernel

theorem ref_low {j : Nat} (hj : j ≤ 64) : Ref (uT j) (uT (128 - j)) (((j : Int) : Rat) / 512) := by
  have h := c_ref ⟨j, by omega⟩
  unfold refB at h
  simp only [Bool.and_eq_true, Bool.or_eq_true, beq_iff_eq, decide_eq_true_eq] at h
  obtain ⟨⟨h1, h2, h3, h4, h5, h6, h7, h8⟩, h9, h10, h11, h12⟩ := h
  have b1 : (0 : Rat) ≤ ((j : Int) : Rat) := by exact_mod_cast Nat.zero_le j
  have b2 : ((j : Int) : Rat) ≤ 64 := by exact_mod_cast hj
  refine ⟨h1, h2, h3, h4, h5, h6, by grind, by grind, ?_, .inl h8, ?_⟩
  · rcases h7 with h7 | h7
    · exact .inl h7
    · exact .inr (by rw [h7]; decide +kernel)
  · rcases h10 with h10 | h10
    · exact .inl ⟨h10, h9, h11, h12⟩
    · subst h10
      exact .inr (.inr ⟨rfl, h9, by decide +kernel, h11, h12⟩)

theorem ref_of {j : Nat} (hj : j ≤ 128) : Ref (uT j) (uT (128 - j)) (((j : Int) : Rat) / 512) := by
  rcases Nat.le_total j 64 with h | h
  · exact ref_low h
  · have r := (ref_low (j := 128 - j) (by omega)).swap
    rw [show 128 - (128 - j) = j by omega] at r
    have e : 1 / 4 - (((128 - j : Nat) : Int) : Rat) / 512 = ((j : Int) : Rat) / 512 := by
      have : (((128 - j : Nat) : Int) : Rat) = 128 - ((j : Int) : Rat) := by
        have : ((128 - j : Nat) : Int) = 128 - (j : Int) := by omega
        rw [this]
        push_cast
        rfl
      rw [this]
      grind
    rw [e] at r
    exact r

theorem uT_R {j : Nat} (hj : j ≤ 128) : R .f64 (uT j) = S j := by
  have h := c_s ⟨j, by omega⟩
  unfold polB at h
  simp only [Bool.and_eq_true] at h
  exact (up_R h.2.1).2

theorem c_circ : ∀ j : Fin 129, (decide (S j.val * S j.val + S (128 - j.val) * S (128 - j.val) ≤ 1 + 1 / 1000000) && decide (1 - 1 / 1000000 ≤ S j.val * S j.val + S (128 - j.val) * S (128 - j.val))) = true := by decide +kernel

/-- Where k parts of 512 lie: how far from the nearest end of a half turn, and the signs of cosine and sine. -/
def partJ (k : Nat) : Nat := if k ≤ 128 then k else if k < 256 then 256 - k else if k ≤ 384 then k - 256 else 512 - k
def partX (k : Nat) : Bool := decide (128 < k) && decide (k ≤ 384)
def partY (k : Nat) : Bool := decide (256 ≤ k)

theorem part_le {k : Nat} (hk : k < 512) : partJ k ≤ 128 := by
  unfold partJ
  split
  · assumption
  · split
    · omega
    · split <;> omega

theorem part_sin {k : Nat} (hk : k < 512) : sinV k = sgn (partY k) (S (partJ k)) := by
  unfold sinV sgn partY partJ
  by_cases h1 : k ≤ 128
  · rw [if_pos h1, if_pos h1, decide_eq_false (show ¬ 256 ≤ k by omega)]
    rfl
  · rw [if_neg h1, if_neg h1]
    by_cases h2 : k < 256
    · rw [if_pos h2, if_pos h2, decide_eq_false (show ¬ 256 ≤ k by omega)]
      rfl
    · rw [if_neg h2, if_neg h2, decide_eq_true (show 256 ≤ k by omega)]
      by_cases h3 : k ≤ 384
      · rw [if_pos h3, if_pos h3]
        rfl
      · rw [if_neg h3, if_neg h3]
        rfl

theorem part_cos {k : Nat} (hk : k < 512) : sinV ((k + 128) % 512) = sgn (partX k) (S (128 - partJ k)) := by
  have hz := S_zero
  have hn : -S 0 = S 0 := by rw [hz]; decide +kernel
  unfold sgn partX partJ
  by_cases h1 : k ≤ 128
  · rw [if_pos h1, decide_eq_false (show ¬ 128 < k by omega)]
    show sinV ((k + 128) % 512) = S (128 - k)
    rw [show (k + 128) % 512 = k + 128 by omega]
    unfold sinV
    by_cases h2 : k = 0
    · subst h2; rfl
    · rw [if_neg (by omega)]
      by_cases h3 : k = 128
      · subst h3
        rw [if_neg (by omega), if_pos (by omega)]
        exact hn
      · rw [if_pos (by omega), show 256 - (k + 128) = 128 - k by omega]
  · rw [if_neg h1, decide_eq_true (show 128 < k by omega)]
    by_cases h2 : k < 256
    · rw [if_pos h2, decide_eq_true (show k ≤ 384 by omega)]
      show sinV ((k + 128) % 512) = -S (128 - (256 - k))
      rw [show (k + 128) % 512 = k + 128 by omega]
      unfold sinV
      rw [if_neg (by omega), if_neg (by omega), if_pos (by omega), show 128 - (256 - k) = k + 128 - 256 by omega]
    · rw [if_neg h2]
      by_cases h3 : k ≤ 384
      · rw [if_pos h3, decide_eq_true h3]
        show sinV ((k + 128) % 512) = -S (128 - (k - 256))
        by_cases h4 : k = 384
        · subst h4
          exact hn.symm
        · rw [show (k + 128) % 512 = k + 128 by omega]
          unfold sinV
          rw [if_neg (by omega), if_neg (by omega)]
          by_cases h5 : k = 256
          · subst h5; rfl
          · rw [if_neg (by omega), show 512 - (k + 128) = 128 - (k - 256) by omega]
      · rw [if_neg h3, decide_eq_false h3]
        show sinV ((k + 128) % 512) = S (128 - (512 - k))
        rw [show (k + 128) % 512 = k - 384 by omega]
        unfold sinV
        rw [if_pos (by omega), show 128 - (512 - k) = k - 384 by omega]

/-- The part's own turn, up to a whole one. -/
theorem part_turn {k : Nat} (hk : k < 512) : ∃ z : Int, sgn (partY k) (if partX k then 1 / 2 - ((partJ k : Int) : Rat) / 512 else ((partJ k : Int) : Rat) / 512) = ((k : Int) : Rat) / 512 + z := by
  have cast : ∀ a b : Nat, b ≤ a → (((a - b : Nat) : Int) : Rat) = ((a : Int) : Rat) - ((b : Int) : Rat) := fun a b h => by
    have : ((a - b : Nat) : Int) = (a : Int) - (b : Int) := by omega
    rw [this]
    push_cast
    rfl
  unfold sgn partX partY partJ
  by_cases h1 : k ≤ 128
  · refine ⟨0, ?_⟩
    rw [if_pos h1, decide_eq_false (show ¬ 256 ≤ k by omega), decide_eq_false (show ¬ 128 < k by omega)]
    show ((k : Int) : Rat) / 512 = ((k : Int) : Rat) / 512 + 0
    exact (Rat.add_zero _).symm
  · rw [if_neg h1, decide_eq_true (show 128 < k by omega)]
    by_cases h2 : k < 256
    · refine ⟨0, ?_⟩
      rw [if_pos h2, decide_eq_false (show ¬ 256 ≤ k by omega), decide_eq_true (show k ≤ 384 by omega), cast 256 k (by omega)]
      show 1 / 2 - (256 - ((k : Int) : Rat)) / 512 = ((k : Int) : Rat) / 512 + 0
      grind
    · refine ⟨-1, ?_⟩
      rw [if_neg h2, decide_eq_true (show 256 ≤ k by omega)]
      by_cases h3 : k ≤ 384
      · rw [if_pos h3, decide_eq_true h3, cast k 256 (by omega)]
        show -(1 / 2 - (((k : Int) : Rat) - 256) / 512) = ((k : Int) : Rat) / 512 + (-1)
        grind
      · rw [if_neg h3, decide_eq_false h3, cast 512 k (by omega)]
        show -((512 - ((k : Int) : Rat)) / 512) = ((k : Int) : Rat) / 512 + (-1)
        grind

end Go.Proofs.Ytkhjcoekmamlaaa

