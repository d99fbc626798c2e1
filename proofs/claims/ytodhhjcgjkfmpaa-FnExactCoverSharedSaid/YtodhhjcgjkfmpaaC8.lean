/- For all arguments, the program's CoverShared answers as the reference's: the law returns true; no condition. -/
import Derived.Test.YtodhhjcgjkfmpaaRows
import Derived.Test.YtodhhjcgjkfmpaaEngY
import Derived.Test.YtodhhjcgjkfmpaaZ8
import Derived.Test.YtodhhjcgjkfmpaaP12
namespace Go.Proofs.Ytodhhjcgjkfmpaa
set_option linter.unusedVariables false
set_option linter.unusedSimpArgs false
open Go.ChangeShapes Go.WideShapes Go.ChangeAt Go.RowKit

theorem Try.own : ownKnob Try.prog.godebug = none := by kernel_rfl
theorem Try.laidOut : laidOutB Try.prog = true := by kernel_rfl

set_option maxRecDepth 100000 in
theorem f8_lifted (os : Os) (started : os.Started) (H : Type) (enc : TypeId × Value → H) :
    ReturnsInHanded {} Try.checked os 8 .any (Rows.fnExactCoverSharedSpec.pre6 enc Try.prog Try.f8 Rows.fnExactCoverSharedRow.domain false) (Rows.fnExactCoverSharedSpec.post enc Try.prog Try.f8 false true false false) := by
  refine returnsInHanded_of_change (C := Try.checked) Try.own started (by kernel_rfl) Try.func8
    (ChangeSpec.witness6 (enc := enc) (C := Try.checked) false ⟨#[], #[.agg #[.float .f32 0, .float .f32 0, .float .f32 0, .float .f32 0], .agg #[.float .f32 0, .float .f32 0, .float .f32 0], .float .f32 0, .float .f32 0, .int .i64 0, .int .i64 0, .int .i64 0], []⟩ 8 (by kernel_rfl) (by kernel_rfl) (by kernel_rfl) (by kernel_rfl)) ?_
  intro W base args ds gs before hval0 hW hcnd _
  have hval : ∀ (j : Nat) t v, Try.f8.params[j]? = some t → args[j]? = some v → Value.okWide Try.prog W .any base t v := hval0
  have hW' := hW
  obtain ⟨p, q, hA0, hV, hpq, hfz, hnd⟩ := hW
  have hA : DataW.TrodAll enc Try.prog W 0 (fun _ => true) true Try.f8.params.toList args.toList ds p := hA0
  rw [Try.params8] at hA hval
  obtain ⟨v0, v1, v2, v3, v4, v5, v6, d0, d1, d2, d3, d4, d5, d6, p0, p1, p2, p3, p4, p5, p6, hargs, rfl, hp, h0, h1, h2, h3, h4, h5, h6⟩ := trods7 hA
  subst hargs
  obtain ⟨c0, rfl, k0⟩ := open_struct (n := 3) Try.underlying39 (by kernel_rfl) (hval 0 39 v0 rfl rfl) h0
  obtain ⟨b0_0, b0_1, b0_2, b0_3, l0⟩ := flts4 k0
  obtain ⟨c1, rfl, k1⟩ := open_struct (n := 3) Try.underlying41 (by kernel_rfl) (hval 1 41 v1 rfl rfl) h1
  obtain ⟨b1_0, b1_1, b1_2, l1⟩ := flts3 k1
  obtain ⟨a2, rfl, rfl, rfl, w2⟩ := open_float Try.underlying28 (hval 2 28 v2 rfl rfl) h2
  obtain ⟨a3, rfl, rfl, rfl, w3⟩ := open_float Try.underlying28 (hval 3 28 v3 rfl rfl) h3
  obtain ⟨a4, rfl, rfl, rfl, w4⟩ := open_int Try.underlying2 (hval 4 2 v4 rfl rfl) h4
  obtain ⟨a5, rfl, rfl, rfl, w5⟩ := open_int Try.underlying2 (hval 5 2 v5 rfl rfl) h5
  obtain ⟨a6, rfl, rfl, rfl, w6⟩ := open_int Try.underlying2 (hval 6 2 v6 rfl rfl) h6
  obtain ⟨hn, hl⟩ := plain8 ⟨canon .f32 b0_0, canon .f32 b0_1, canon .f32 b0_2, canon .f32 b0_3⟩ ⟨canon .f32 b1_0, canon .f32 b1_1, canon .f32 b1_2⟩ (canon .f32 a2) (canon .f32 a3) a4 a5 a6
  have hF : laws_FnExactCoverShared_c.fn [.agg [.flt .f32 (canon .f32 b0_0), .flt .f32 (canon .f32 b0_1), .flt .f32 (canon .f32 b0_2), .flt .f32 (canon .f32 b0_3)], .agg [.flt .f32 (canon .f32 b1_0), .flt .f32 (canon .f32 b1_1), .flt .f32 (canon .f32 b1_2)], .flt .f32 (canon .f32 a2), .flt .f32 (canon .f32 a3), .int .i64 a4, .int .i64 a5, .int .i64 a6] = some ⟨.bool true, []⟩ := by
    show (DT.need (laws_FnExactCoverShared_need _ _ _ _ _ _ _) (.leaf (laws_FnExactCoverShared_mk (laws_FnExactCoverShared _ _ _ _ _ _ _)))).get = _
    rw [hn, hl]
    rfl
  refine (calls_of_fun (x := bodyOf Try.f8) Try.func8 (by kernel_rfl) (by kernel_rfl) (laws_FnExactCoverShared_ok W _ #[.agg c0, .agg c1, .float .f32 a2, .float .f32 a3, .int .i64 a4, .int .i64 a5, .int .i64 a6] _ hF (by
    simp only [VSims]
    exact ⟨by simp only [VSim]; exact ⟨c0, rfl, by rw [l0]; simp only [VSims, VSim]; exact ⟨⟨b0_0, rfl, rfl⟩, ⟨b0_1, rfl, rfl⟩, ⟨b0_2, rfl, rfl⟩, ⟨b0_3, rfl, rfl⟩, trivial⟩⟩, by simp only [VSim]; exact ⟨c1, rfl, by rw [l1]; simp only [VSims, VSim]; exact ⟨⟨b1_0, rfl, rfl⟩, ⟨b1_1, rfl, rfl⟩, ⟨b1_2, rfl, rfl⟩, trivial⟩⟩, by simp only [VSim]; exact ⟨a2, rfl, rfl⟩, by simp only [VSim]; exact ⟨a3, rfl, rfl⟩, by simp only [VSim], by simp only [VSim], by simp only [VSim], trivial⟩))).mono fun e W' ⟨v, he, hR⟩ => ?_
  subst he
  have hv : v = .bool true := by
    obtain ⟨pr, φ, hv, _⟩ := hR
    simpa only [VSim] using hv
  subst hv
  exact ⟨_, rfl, post_law (tb := 4) Try.laidOut hW' rfl (by kernel_rfl) Try.underlying4 (by kernel_rfl) ⟨rfl, rfl, rfl⟩ hR⟩

theorem f8_holds : Rows.FnExactCoverSharedSaid :=
  OpenClaim.holds_of_wide 8 Try.f8 rfl rfl rfl rfl rfl rfl rfl ⟨rfl, rfl, rfl, rfl, rfl⟩ rfl rfl rfl rfl rfl (by kernel_rfl) Try.func8 f8_closed
    (of_decide_eq_true (by kernel_rfl)) (by unfold Func.isWrapper; first | (rw [if_pos (by decide +kernel)]; kernel_rfl) | (rw [if_neg (by decide +kernel)]; exact ⟨rfl, rfl⟩))
    (fun os started H enc _ => f8_lifted os started H enc)

end Go.Proofs.Ytodhhjcgjkfmpaa
