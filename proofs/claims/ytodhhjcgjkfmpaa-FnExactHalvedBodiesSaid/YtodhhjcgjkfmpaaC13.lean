/- For all arguments, the program's HalvedBodies answers as the reference's: the law returns true; no condition. -/
import Derived.Test.YtodhhjcgjkfmpaaRows
import Derived.Test.YtodhhjcgjkfmpaaEngY
import Derived.Test.YtodhhjcgjkfmpaaZ13
import Derived.Test.YtodhhjcgjkfmpaaP8
namespace Go.Proofs.Ytodhhjcgjkfmpaa
set_option linter.unusedVariables false
set_option linter.unusedSimpArgs false
open Go.ChangeShapes Go.WideShapes Go.ChangeAt Go.RowKit

theorem Try.own : ownKnob Try.prog.godebug = none := by kernel_rfl
theorem Try.laidOut : laidOutB Try.prog = true := by kernel_rfl

set_option maxRecDepth 100000 in
theorem f13_lifted (os : Os) (started : os.Started) (H : Type) (enc : TypeId × Value → H) :
    ReturnsInHanded {} Try.checked os 13 .any (Rows.fnExactHalvedBodiesSpec.pre6 enc Try.prog Try.f13 Rows.fnExactHalvedBodiesRow.domain false) (Rows.fnExactHalvedBodiesSpec.post enc Try.prog Try.f13 false true false false) := by
  refine returnsInHanded_of_change (C := Try.checked) Try.own started (by kernel_rfl) Try.func13
    (ChangeSpec.witness6 (enc := enc) (C := Try.checked) false ⟨#[], #[.slice none 0 0, .float .f32 0, .float .f32 0, .float .f32 0], []⟩ 8 (by kernel_rfl) (by kernel_rfl) (by kernel_rfl) (by kernel_rfl)) ?_
  intro W base args ds gs before hval0 hW hcnd _
  have hval : ∀ (j : Nat) t v, Try.f13.params[j]? = some t → args[j]? = some v → Value.okWide Try.prog W .any base t v := hval0
  have hW' := hW
  obtain ⟨p, q, hA0, hV, hpq, hfz, hnd⟩ := hW
  have hA : DataW.TrodAll enc Try.prog W 0 (fun _ => true) true Try.f13.params.toList args.toList ds p := hA0
  rw [Try.params13] at hA hval
  obtain ⟨v0, v1, v2, v3, d0, d1, d2, d3, p0, p1, p2, p3, hargs, rfl, hp, h0, h1, h2, h3⟩ := trods4 hA
  subst hargs
  obtain ⟨a1, rfl, rfl, rfl, w1⟩ := open_float Try.underlying28 (hval 1 28 v1 rfl rfl) h1
  obtain ⟨a2, rfl, rfl, rfl, w2⟩ := open_float Try.underlying28 (hval 2 28 v2 rfl rfl) h2
  obtain ⟨a3, rfl, rfl, rfl, w3⟩ := open_float Try.underlying28 (hval 3 28 v3 rfl rfl) h3
  obtain ⟨x0, n0, f0, s0⟩ := open_row (c := .body) (n := 4) (ar := #[v0, .float .f32 a1, .float .f32 a2, .float .f32 a3]) (i := 0) rfl Try.underlying66 (by kernel_rfl) (by kernel_rfl) (okWide_slice Try.underlying66 (hval 0 66 v0 rfl rfl)) h0 rfl
  obtain ⟨hn, hl⟩ := plain13 x0 n0 (canon .f32 a1) (canon .f32 a2) (canon .f32 a3)
  have hF : laws_FnExactHalvedBodies_c.fn [.vslc 1 .body x0, .flt .f32 (canon .f32 a1), .flt .f32 (canon .f32 a2), .flt .f32 (canon .f32 a3)] = some ⟨.bool true, []⟩ := by
    show (DT.need (laws_FnExactHalvedBodies_need _ _ _ _) (.leaf (laws_FnExactHalvedBodies_mk (laws_FnExactHalvedBodies _ _ _ _)))).get = _
    rw [hn, hl]
    rfl
  refine (calls_of_fun (x := bodyOf Try.f13) Try.func13 (by kernel_rfl) (by kernel_rfl) (laws_FnExactHalvedBodies_ok W _ #[v0, .float .f32 a1, .float .f32 a2, .float .f32 a3] _ hF (by
    simp only [VSims]
    exact ⟨s0, by simp only [VSim]; exact ⟨a1, rfl, rfl⟩, by simp only [VSim]; exact ⟨a2, rfl, rfl⟩, by simp only [VSim]; exact ⟨a3, rfl, rfl⟩, trivial⟩))).mono fun e W' ⟨v, he, hR⟩ => ?_
  subst he
  have hv : v = .bool true := by
    obtain ⟨pr, φ, hv, _⟩ := hR
    simpa only [VSim] using hv
  subst hv
  exact ⟨_, rfl, post_law (tb := 4) Try.laidOut hW' rfl (by kernel_rfl) Try.underlying4 (by kernel_rfl) ⟨rfl, rfl, rfl⟩ hR⟩

theorem f13_holds : Rows.FnExactHalvedBodiesSaid :=
  OpenClaim.holds_of_wide 13 Try.f13 rfl rfl rfl rfl rfl rfl rfl ⟨rfl, rfl, rfl, rfl, rfl⟩ rfl rfl rfl rfl rfl (by kernel_rfl) Try.func13 f13_closed
    (of_decide_eq_true (by kernel_rfl)) (by unfold Func.isWrapper; first | (rw [if_pos (by decide +kernel)]; kernel_rfl) | (rw [if_neg (by decide +kernel)]; exact ⟨rfl, rfl⟩))
    (fun os started H enc _ => f13_lifted os started H enc)

end Go.Proofs.Ytodhhjcgjkfmpaa
