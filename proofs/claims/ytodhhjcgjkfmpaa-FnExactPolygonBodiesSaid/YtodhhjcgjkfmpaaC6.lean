/- For every count, radius and mass, the program's PolygonBodies answers as the reference's: the law returns true; no condition. -/
import Derived.Test.YtodhhjcgjkfmpaaRows
import Derived.Test.YtodhhjcgjkfmpaaEngR
import Derived.Test.YtodhhjcgjkfmpaaP3
namespace Go.Proofs.Ytodhhjcgjkfmpaa
set_option linter.unusedVariables false
set_option linter.unusedSimpArgs false
open Go.ChangeShapes Go.WideShapes Go.ChangeAt Go.RowKit

theorem Try.own : ownKnob Try.prog.godebug = none := by kernel_rfl
theorem Try.laidOut : laidOutB Try.prog = true := by kernel_rfl

set_option maxRecDepth 100000 in
theorem f6_lifted (os : Os) (started : os.Started) (H : Type) (enc : TypeId × Value → H) :
    ReturnsInHanded {} Try.checked os 6 .any (Rows.fnExactPolygonBodiesSpec.pre6 enc Try.prog Try.f6 Rows.fnExactPolygonBodiesRow.domain false) (Rows.fnExactPolygonBodiesSpec.post enc Try.prog Try.f6 false true false false) := by
  refine returnsInHanded_of_change (C := Try.checked) Try.own started (by kernel_rfl) Try.func6
    (ChangeSpec.witness6 (enc := enc) (C := Try.checked) false ⟨#[], #[.int .i64 0, .float .f32 0, .float .f32 0], []⟩ 8 (by kernel_rfl) (by kernel_rfl) (by kernel_rfl) (by kernel_rfl)) ?_
  intro W base args ds gs before hval0 hW hcnd _
  have hval : ∀ (j : Nat) t v, Try.f6.params[j]? = some t → args[j]? = some v → Value.okWide Try.prog W .any base t v := hval0
  have hW' := hW
  obtain ⟨p, q, hA0, hV, hpq, hfz, hnd⟩ := hW
  have hA : DataW.TrodAll enc Try.prog W 0 (fun _ => true) true Try.f6.params.toList args.toList ds p := hA0
  rw [Try.params6] at hA hval
  obtain ⟨v0, v1, v2, d0, d1, d2, p0, p1, p2, hargs, rfl, hp, h0, h1, h2⟩ := trodAll_three hA
  subst hargs
  obtain ⟨a, rfl, rfl, rfl, wa⟩ := open_int Try.underlying2 (hval 0 2 v0 rfl rfl) h0
  obtain ⟨b, rfl, rfl, rfl, wb⟩ := open_float Try.underlying28 (hval 1 28 v1 rfl rfl) h1
  obtain ⟨c, rfl, rfl, rfl, wc⟩ := open_float Try.underlying28 (hval 2 28 v2 rfl rfl) h2
  obtain ⟨hn, hl⟩ := plain6 a (canon .f32 b) (canon .f32 c)
  have hF : laws_FnExactPolygonBodies_c.fn [.int .i64 a, .flt .f32 (canon .f32 b), .flt .f32 (canon .f32 c)] = some ⟨.bool true, []⟩ := by
    show (DT.need (laws_FnExactPolygonBodies_need _ _ _) (.leaf (laws_FnExactPolygonBodies_mk (laws_FnExactPolygonBodies _ _ _)))).get = _
    rw [hn, hl]
    rfl
  refine (calls_of_fun (x := bodyOf Try.f6) Try.func6 (by kernel_rfl) (by kernel_rfl) (laws_FnExactPolygonBodies_ok W _ #[.int .i64 a, .float .f32 b, .float .f32 c] _ hF (by
    simp only [VSims, VSim]
    exact ⟨trivial, ⟨b, rfl, rfl⟩, ⟨c, rfl, rfl⟩, trivial⟩))).mono fun e W' ⟨v, he, hR⟩ => ?_
  subst he
  have hv : v = .bool true := by
    obtain ⟨pr, φ, hv, _⟩ := hR
    simpa only [VSim] using hv
  subst hv
  exact ⟨_, rfl, post_law (tb := 4) Try.laidOut hW' rfl (by kernel_rfl) Try.underlying4 (by kernel_rfl) ⟨rfl, rfl, rfl⟩ hR⟩

theorem f6_holds : Rows.FnExactPolygonBodiesSaid :=
  OpenClaim.holds_of_wide 6 Try.f6 rfl rfl rfl rfl rfl rfl rfl ⟨rfl, rfl, rfl, rfl, rfl⟩ rfl rfl rfl rfl rfl (by kernel_rfl) Try.func6 (by kernel_rfl)
    (of_decide_eq_true (by kernel_rfl)) (by unfold Func.isWrapper; first | (rw [if_pos (by decide +kernel)]; kernel_rfl) | (rw [if_neg (by decide +kernel)]; exact ⟨rfl, rfl⟩))
    (fun os started H enc _ => f6_lifted os started H enc)

end Go.Proofs.Ytodhhjcgjkfmpaa
