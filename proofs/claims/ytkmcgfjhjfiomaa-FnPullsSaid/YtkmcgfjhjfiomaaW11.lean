/- The plain law of FnPulls, part 11: the law. -/
import Derived.Test.YtkmcgfjhjfiomaaW10
namespace Go.Proofs.Ytkmcgfjhjfiomaa
set_option linter.unusedVariables false
set_option linter.unusedSimpArgs false

theorem eq_map {l : List Body} : l = mapB (fun b => b) l := eq_of_getD (d := default) rfl fun j _ => rfl

theorem mirror_twice (l : List Body) (hl : l.length ≤ 16) (h : ∀ j, j < l.length → okB (l.getD j default) = true) :
    okL (mapB impl_MirrorBodies_1 l) = true ∧ okL (mapB impl_MirrorBodies_1 (mapB impl_MirrorBodies_1 l)) = true ∧ mapB impl_MirrorBodies_1 (mapB impl_MirrorBodies_1 l) = l := by
  have e : mapB impl_MirrorBodies_1 (mapB impl_MirrorBodies_1 l) = l := by
    conv => rhs; rw [eq_map (l := l)]
    refine eq_of_getD (d := default) (by rw [mapB_len, mapB_len]) fun j hj => ?_
    rw [mapB_get _ _ (by rw [mapB_len]; exact hj), mapB_get _ _ hj]
    exact (okB_mirror (h j hj)).2
  refine ⟨okL_of (by rw [mapB_len]; exact hl) fun j hj => ?_, ?_, e⟩
  · rw [mapB_len] at hj
    rw [mapB_get _ _ hj]
    exact (okB_mirror (h j hj)).1
  · rw [e]
    exact okL_of hl h

theorem flt_true {k : FloatKind} {x y : Nat} (hx : isNum k x = true) (hy : isNum k y = true) (h : R k x < R k y) : flt k x y = true := by
  rw [flt_R hx hy]
  exact decide_eq_true h

/-- The law, past its draws. -/
theorem pulls_law (a1 : List Int) (l : List Body) {f : Nat → Int × Int × Int × Int} (h : Base l f) (v1 v2 v3 : Vec) (h1 : SmallI v1.X ∧ SmallI v1.Y ∧ SmallI v1.Z) (h2 : SmallI v2.X ∧ SmallI v2.Y ∧ SmallI v2.Z) (h3 : SmallI v3.X ∧ SmallI v3.Y ∧ SmallI v3.Z) (t : Nat) (ht : turnFacts t) :
    ∃ ms ts : List Body, ∃ P1 P2 : Nat → Vec, ∃ a b c a' b' c' : Nat,
      (impl_PullsOf_need l 1048576000 = true ∧ impl_PullsOf l 1048576000 = .inr ((List.range l.length).map (pullV l))) ∧
      (impl_MoveBodies_need l v1 v2 = true ∧ impl_MoveBodies l v1 v2 = .inr ms) ∧
      (impl_PullsOf_need ms 1048576000 = true ∧ impl_PullsOf ms 1048576000 = .inr ((List.range l.length).map P1)) ∧
      (impl_TurnBodies_need l t = true ∧ impl_TurnBodies l t = .inr ts) ∧
      (impl_PullsOf_need ts 1048576000 = true ∧ impl_PullsOf ts 1048576000 = .inr ((List.range l.length).map P2)) ∧
      (laws_FnPulls_loop0_ends (a1, l, (List.range l.length).map (pullV l), (List.range l.length).map P1, (List.range l.length).map P2) (0, 0, 0, 0) = true ∧ laws_FnPulls_loop0 (a1, l, (List.range l.length).map (pullV l), (List.range l.length).map P1, (List.range l.length).map P2) (0, 0, 0, 0) = .inr (a, b, c)) ∧
      (impl_PullAt_need l v3 1048576000 = true ∧ impl_PullAt l v3 1048576000 = (pullA l v3, true)) ∧
      (laws_FnPulls_loop1_ends (true, l, a, b, c, v3.X, v3.Y, v3.Z, (pullA l v3).X, (pullA l v3).Y, (pullA l v3).Z) (0, 0, 0, 0) = true ∧ laws_FnPulls_loop1 (true, l, a, b, c, v3.X, v3.Y, v3.Z, (pullA l v3).X, (pullA l v3).Y, (pullA l v3).Z) (0, 0, 0, 0) = .inr (a', b', c')) ∧
      (impl_SizeOfVector_need ⟨a, b, c⟩ = true ∧ flt .f32 (impl_SizeOfVector ⟨a, b, c⟩) 1008981770 = true) ∧
      (laws_r8Far_need (pullA l v3) ⟨a', b', c'⟩ = true ∧ impl_SizeOfVector_need (pullA l v3) = true ∧ flt .f64 (laws_r8Far (pullA l v3) ⟨a', b', c'⟩) (limN (fconv .f32 (impl_SizeOfVector (pullA l v3)) .f64)) = true) := by
  have n4 := h.n4
  have hT := T_pos
  have hT1 := T_le
  obtain ⟨t1, t2, t3, t4, t5, t6, t7, t8⟩ := ht
  obtain ⟨g1, o1⟩ := move_img h (v := v1) (w := v2) h1.1 h1.2.1 h1.2.2 h2.1 h2.2.1 h2.2.2
  obtain ⟨g2, o2⟩ := turn_img h t4 t5 t6 t7
  obtain ⟨ms, hms⟩ : ∃ ms, ms = mapB (fun b => impl_MoveBodies_1 b v1.X v1.Y v1.Z v2.X v2.Y v2.Z) l := ⟨_, rfl⟩
  obtain ⟨ts, hts⟩ : ∃ ts, ts = mapB (fun b => impl_TurnBodies_2 b (impl_SineTurns (fadd .f32 t 1048576000)) (impl_SineTurns t)) l := ⟨_, rfl⟩
  have f1 : finV v1 = true := by unfold finV; rw [h1.1.bd.1, h1.2.1.bd.1, h1.2.2.bd.1]; rfl
  have f2 : finV v2 = true := by unfold finV; rw [h2.1.bd.1, h2.2.1.bd.1, h2.2.2.bd.1]; rfl
  have f3 : finV v3 = true := by unfold finV; rw [h3.1.bd.1, h3.2.1.bd.1, h3.2.2.bd.1]; rfl
  have hM := move_all l (by omega) v1 v2 h.okL o1 f1 f2
  have hTn := turn_all l (by omega) t _ _ t1 ⟨t2, rfl⟩ ⟨t3, rfl⟩ h.okL o2
  rw [← hms] at hM g1 o1
  rw [← hts] at hTn g2 o2
  have b10 : Bd (1 : Rat) 1 := by unfold Bd; constructor <;> grind
  have b00 : Bd (0 : Rat) 1 := by unfold Bd; constructor <;> grind
  have k10 : Nr ((1 : Rat) * 1 + 0 * 0) 1 (1 / 4000000) := by unfold Nr; constructor <;> grind
  have hP := pulls_all l n4 h.okL h.pull
  have hP1 := pulls_all ms (by rw [g1.len]; exact n4) o1 (g1.pull h b10 b00)
  have hP2 := pulls_all ts (by rw [g2.len]; exact n4) o2 (g2.pull h t6 t7)
  rw [g1.len] at hP1
  rw [g2.len] at hP2
  have hasks : ∀ i, i < l.length → Asks (pullV l i) (pullV ms i) (pullV ts i) := fun i hi => by
    obtain ⟨p1, p2⟩ := pull_bd n4 h.pull hi
    obtain ⟨q1, q2⟩ := pull_bd (l := ms) (by rw [g1.len]; exact n4) (g1.pull h b10 b00) (i := i) (by rw [g1.len]; exact hi)
    obtain ⟨r1, r2⟩ := pull_bd (l := ts) (by rw [g2.len]; exact n4) (g2.pull h t6 t7) (i := i) (by rw [g2.len]; exact hi)
    obtain ⟨m1, m2, m3⟩ := g1.pulls h b10 b00 k10 hi
    refine asks p1 q1 r1 p2 r2 t8 ⟨?_, ?_, m3⟩ (g2.pulls h t6 t7 t8 hi)
    · unfold Nr at m1 ⊢; constructor <;> grind
    · unfold Nr at m2 ⊢; constructor <;> grind
  obtain ⟨l1, a, b, c, l2, sa, sb, sc⟩ := loop0_all a1 h (pullV ms) (pullV ts) hasks
  obtain ⟨w1, w2, w3, w4, w5⟩ := pullA_all l n4 h.okL v3 f3 (fun j hj => h.place h3.1 h3.2.1 h3.2.2 hj)
  obtain ⟨e1, a', b', c', e2, pa, pb, pc⟩ := loop1_all true h a b c v3 (pullA l v3) h3.1 h3.2.1 h3.2.2
  -- the sum
  have hn : (l.length : Rat) ≤ 4 := by exact_mod_cast n4
  have hn0 : (0 : Rat) ≤ l.length := by exact_mod_cast Nat.zero_le _
  have ba := h.sum Vec.X (.inl rfl) sa
  have bb := h.sum Vec.Y (.inr (.inl rfl)) sb
  have bc := h.sum Vec.Z (.inr (.inr rfl)) sc
  have fs : finV ⟨a, b, c⟩ = true := by unfold finV; rw [sa.1, sb.1, sc.1]; rfl
  obtain ⟨z1, z2, ρ, z3, z4, z5, z6⟩ := size_ok (P := ⟨a, b, c⟩) fs (bd_sq3 ba bb bc) (by decide +kernel)
  have hρ : ρ ≤ 4 / 1000 := le_of_sq (by grind) (by
    have := bd_sq3 ba bb bc
    have s1 := sq_nonneg (R .f32 a)
    have s2 := sq_nonneg (R .f32 b)
    have s3 := sq_nonneg (R .f32 c)
    simp only at z5
    unfold Nr at z5
    grind)
  obtain ⟨_, _, _, _, c5, c6⟩ := consts_R
  -- the parts
  have fw : finV (pullA l v3) = true := by unfold finV; rw [w3.1, w4.1, w5.1]; rfl
  have fp : finV ⟨a', b', c'⟩ = true := by unfold finV; rw [pa.1, pb.1, pc.1]; rfl
  have bw : Bd (R .f32 (pullA l v3).X) 133 ∧ Bd (R .f32 (pullA l v3).Y) 133 ∧ Bd (R .f32 (pullA l v3).Z) 133 :=
    ⟨(w3.2.1.toBd w3.2.2).mono (by grind), (w4.2.1.toBd w4.2.2).mono (by grind), (w5.2.1.toBd w5.2.2).mono (by grind)⟩
  obtain ⟨x1, x2, σ, x3, x4, x5, x6⟩ := size_ok fw (bd_sq3 bw.1 bw.2.1 bw.2.2) (by decide +kernel)
  have n1 := (w3.2.1.trans pa.2.1.symm).mono (show _ ≤ (17 / 100000 : Rat) by grind)
  have n2 := (w4.2.1.trans pb.2.1.symm).mono (show _ ≤ (17 / 100000 : Rat) by grind)
  have n3 := (w5.2.1.trans pc.2.1.symm).mono (show _ ≤ (17 / 100000 : Rat) by grind)
  obtain ⟨y1, y2, y3⟩ := far_fl (P := pullA l v3) (Q := ⟨a', b', c'⟩) (E := 3 / 10000) fw fp n1 n2 n3 (by decide +kernel) (by decide +kernel) (by decide +kernel)
  obtain ⟨u1, u2⟩ := up_R x2
  obtain ⟨d1, d2⟩ := lim_fl u1 (by rw [u2]; unfold Nr at x6; grind) (by rw [u2]; unfold Nr at x6; grind)
  refine ⟨ms, ts, pullV ms, pullV ts, a, b, c, a', b', c', hP, hM, hP1, hTn, hP2, ⟨l1, l2⟩, ⟨w1, w2⟩, ⟨e1, e2⟩, ⟨z1, flt_true z2 c5 ?_⟩, ⟨y1, x1, flt_true y2 d1 ?_⟩⟩
  · unfold Nr at z6
    grind
  · rw [u2] at d2
    unfold Nr at x6
    grind

end Go.Proofs.Ytkmcgfjhjfiomaa
