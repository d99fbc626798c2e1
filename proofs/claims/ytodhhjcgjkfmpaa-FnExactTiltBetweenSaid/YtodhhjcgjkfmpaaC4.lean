/- For all arguments, the program's TiltBetween answers as the reference's: the law returns true; no condition. -/
import Derived.Test.YtodhhjcgjkfmpaaRows
import Derived.Test.YtodhhjcgjkfmpaaEngY
import Derived.Test.YtodhhjcgjkfmpaaP4
namespace Go.Proofs.Ytodhhjcgjkfmpaa
set_option linter.unusedVariables false
set_option linter.unusedSimpArgs false
open Go.ChangeShapes Go.WideShapes Go.ChangeAt Go.RowKit

theorem Try.own : ownKnob Try.prog.godebug = none := by kernel_rfl
theorem Try.laidOut : laidOutB Try.prog = true := by kernel_rfl

set_option maxRecDepth 100000 in
theorem f4_lifted (os : Os) (started : os.Started) (H : Type) (enc : TypeId × Value → H) :
    ReturnsInHanded {} Try.checked os 4 .any (Rows.fnExactTiltBetweenSpec.pre6 enc Try.prog Try.f4 Rows.fnExactTiltBetweenRow.domain false) (Rows.fnExactTiltBetweenSpec.post enc Try.prog Try.f4 false true false false) := by
  refine returnsInHanded_of_change (C := Try.checked) Try.own started (by kernel_rfl) Try.func4
    (ChangeSpec.witness6 (enc := enc) (C := Try.checked) false ⟨#[], #[.agg #[.float .f32 0, .float .f32 0, .float .f32 0, .float .f32 0, .float .f32 0, .float .f32 0], .agg #[.float .f32 0, .float .f32 0, .float .f32 0, .float .f32 0, .float .f32 0, .float .f32 0]], []⟩ 8 (by kernel_rfl) (by kernel_rfl) (by kernel_rfl) (by kernel_rfl)) ?_
  intro W base args ds gs before hval0 hW hcnd _
  have hval : ∀ (j : Nat) t v, Try.f4.params[j]? = some t → args[j]? = some v → Value.okWide Try.prog W .any base t v := hval0
  have hW' := hW
  obtain ⟨p, q, hA0, hV, hpq, hfz, hnd⟩ := hW
  have hA : DataW.TrodAll enc Try.prog W 0 (fun _ => true) true Try.f4.params.toList args.toList ds p := hA0
  rw [Try.params4] at hA hval
  obtain ⟨v0, v1, d0, d1, p0, p1, hargs, rfl, hp, h0, h1⟩ := trods2 hA
  subst hargs
  obtain ⟨c0, rfl, k0⟩ := open_struct (n := 3) Try.underlying30 (by kernel_rfl) (hval 0 30 v0 rfl rfl) h0
  obtain ⟨b0_0, b0_1, b0_2, b0_3, b0_4, b0_5, l0⟩ := flts6 k0
  obtain ⟨c1, rfl, k1⟩ := open_struct (n := 3) Try.underlying30 (by kernel_rfl) (hval 1 30 v1 rfl rfl) h1
  obtain ⟨b1_0, b1_1, b1_2, b1_3, b1_4, b1_5, l1⟩ := flts6 k1
  obtain ⟨hn, hl⟩ := plain4 ⟨canon .f32 b0_0, canon .f32 b0_1, canon .f32 b0_2, canon .f32 b0_3, canon .f32 b0_4, canon .f32 b0_5⟩ ⟨canon .f32 b1_0, canon .f32 b1_1, canon .f32 b1_2, canon .f32 b1_3, canon .f32 b1_4, canon .f32 b1_5⟩
  have hF : laws_FnExactTiltBetween_c.fn [.agg [.flt .f32 (canon .f32 b0_0), .flt .f32 (canon .f32 b0_1), .flt .f32 (canon .f32 b0_2), .flt .f32 (canon .f32 b0_3), .flt .f32 (canon .f32 b0_4), .flt .f32 (canon .f32 b0_5)], .agg [.flt .f32 (canon .f32 b1_0), .flt .f32 (canon .f32 b1_1), .flt .f32 (canon .f32 b1_2), .flt .f32 (canon .f32 b1_3), .flt .f32 (canon .f32 b1_4), .flt .f32 (canon .f32 b1_5)]] = some ⟨.bool true, []⟩ := by
    show (DT.need (laws_FnExactTiltBetween_need _ _) (.leaf (laws_FnExactTiltBetween_mk (laws_FnExactTiltBetween _ _)))).get = _
    rw [hn, hl]
    rfl
  refine (calls_of_fun (x := bodyOf Try.f4) Try.func4 (by kernel_rfl) (by kernel_rfl) (laws_FnExactTiltBetween_ok W _ #[.agg c0, .agg c1] _ hF (by
    simp only [VSims]
    exact ⟨by simp only [VSim]; exact ⟨c0, rfl, by rw [l0]; simp only [VSims, VSim]; exact ⟨⟨b0_0, rfl, rfl⟩, ⟨b0_1, rfl, rfl⟩, ⟨b0_2, rfl, rfl⟩, ⟨b0_3, rfl, rfl⟩, ⟨b0_4, rfl, rfl⟩, ⟨b0_5, rfl, rfl⟩, trivial⟩⟩, by simp only [VSim]; exact ⟨c1, rfl, by rw [l1]; simp only [VSims, VSim]; exact ⟨⟨b1_0, rfl, rfl⟩, ⟨b1_1, rfl, rfl⟩, ⟨b1_2, rfl, rfl⟩, ⟨b1_3, rfl, rfl⟩, ⟨b1_4, rfl, rfl⟩, ⟨b1_5, rfl, rfl⟩, trivial⟩⟩, trivial⟩))).mono fun e W' ⟨v, he, hR⟩ => ?_
  subst he
  have hv : v = .bool true := by
    obtain ⟨pr, φ, hv, _⟩ := hR
    simpa only [VSim] using hv
  subst hv
  exact ⟨_, rfl, post_law (tb := 4) Try.laidOut hW' rfl (by kernel_rfl) Try.underlying4 (by kernel_rfl) ⟨rfl, rfl, rfl⟩ hR⟩

theorem f4_holds : Rows.FnExactTiltBetweenSaid :=
  OpenClaim.holds_of_wide 4 Try.f4 rfl rfl rfl rfl rfl rfl rfl ⟨rfl, rfl, rfl, rfl, rfl⟩ rfl rfl rfl rfl rfl (by kernel_rfl) Try.func4 (by kernel_rfl)
    (of_decide_eq_true (by kernel_rfl)) (by unfold Func.isWrapper; first | (rw [if_pos (by decide +kernel)]; kernel_rfl) | (rw [if_neg (by decide +kernel)]; exact ⟨rfl, rfl⟩))
    (fun os started H enc _ => f4_lifted os started H enc)

end Go.Proofs.Ytodhhjcgjkfmpaa
