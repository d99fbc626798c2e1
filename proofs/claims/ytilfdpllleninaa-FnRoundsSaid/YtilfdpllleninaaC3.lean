/- For all arguments, the program's Rounds answers as the reference's: the law returns true; no condition. -/
import Derived.Test.YtilfdpllleninaaRows
import Derived.Test.YtilfdpllleninaaEngY
import Derived.Test.YtilfdpllleninaaZ3
import Derived.Test.YtilfdpllleninaaR9
namespace Go.Proofs.Ytilfdpllleninaa
set_option linter.unusedVariables false
set_option linter.unusedSimpArgs false
open Go.ChangeShapes Go.WideShapes Go.ChangeAt Go.RowKit

theorem Try.own : ownKnob Try.prog.godebug = none := by kernel_rfl
theorem Try.laidOut : laidOutB Try.prog = true := by kernel_rfl

set_option maxRecDepth 100000 in
theorem f3_lifted (os : Os) (started : os.Started) (H : Type) (enc : TypeId × Value → H) :
    ReturnsInHanded {} Try.checked os 3 .any (Rows.fnRoundsSpec.pre6 enc Try.prog Try.f3 Rows.fnRoundsRow.domain false) (Rows.fnRoundsSpec.post enc Try.prog Try.f3 false true false false) := by
  refine returnsInHanded_of_change (C := Try.checked) Try.own started (by kernel_rfl) Try.func3
    (ChangeSpec.witness6 (enc := enc) (C := Try.checked) false ⟨#[], #[.slice none 0 0, .slice none 0 0], []⟩ 8 (by kernel_rfl) (by kernel_rfl) (by kernel_rfl) (by kernel_rfl)) ?_
  intro W base args ds gs before hval0 hW hcnd _
  have hval : ∀ (j : Nat) t v, Try.f3.params[j]? = some t → args[j]? = some v → Value.okWide Try.prog W .any base t v := hval0
  have hW' := hW
  obtain ⟨p, q, hA0, hV, hpq, hfz, hnd⟩ := hW
  have hA : DataW.TrodAll enc Try.prog W 0 (fun _ => true) true Try.f3.params.toList args.toList ds p := hA0
  rw [Try.params3] at hA hval
  obtain ⟨v0, v1, d0, d1, p0, p1, hargs, rfl, hp, h0, h1⟩ := trods2 hA
  subst hargs
  obtain ⟨x0, n0, f0, s0⟩ := open_row (c := (.int .u8)) (n := 4) (ar := #[v0, v1]) (i := 0) rfl Try.underlying22 (by kernel_rfl) (by kernel_rfl) (okWide_slice Try.underlying22 (hval 0 22 v0 rfl rfl)) h0 rfl
  obtain ⟨x1, n1, f1, s1⟩ := open_row (c := (.int .u8)) (n := 4) (ar := #[v0, v1]) (i := 1) rfl Try.underlying22 (by kernel_rfl) (by kernel_rfl) (okWide_slice Try.underlying22 (hval 1 22 v1 rfl rfl)) h1 rfl
  obtain ⟨hn, hl⟩ := plain3 x0 n0 f0 x1 n1 f1
  have hF : laws_FnRounds_c.fn [.vslc 1 (.int .u8) x0, .vslc 2 (.int .u8) x1] = some ⟨.bool true, []⟩ := by
    show (DT.need (laws_FnRounds_need _ _) (.leaf (laws_FnRounds_mk (laws_FnRounds _ _)))).get = _
    rw [hn, hl]
    rfl
  refine (calls_of_fun (x := bodyOf Try.f3) Try.func3 (by kernel_rfl) (by kernel_rfl) (laws_FnRounds_ok W _ #[v0, v1] _ ⟨trivial, fun _ h => h.elim⟩ hF (by
    simp only [VSims]
    exact ⟨s0, s1, trivial⟩))).mono fun e W' ⟨v, he, hR⟩ => ?_
  subst he
  have hv : v = .bool true := by
    obtain ⟨pr, φ, hv, _⟩ := hR
    simpa only [VSim] using hv
  subst hv
  exact ⟨_, rfl, post_law (tb := 4) Try.laidOut hW' rfl (by kernel_rfl) Try.underlying4 (by kernel_rfl) ⟨rfl, rfl, rfl⟩ hR⟩

theorem f3_holds : Rows.FnRoundsSaid :=
  OpenClaim.holds_of_wide 3 Try.f3 rfl rfl rfl rfl rfl rfl rfl ⟨rfl, rfl, rfl, rfl, rfl⟩ rfl rfl rfl rfl rfl (by kernel_rfl) Try.func3 f3_closed
    (of_decide_eq_true (by kernel_rfl)) (by unfold Func.isWrapper; first | (rw [if_pos (by decide +kernel)]; kernel_rfl) | (rw [if_neg (by decide +kernel)]; exact ⟨rfl, rfl⟩))
    (fun os started H enc _ => f3_lifted os started H enc)

end Go.Proofs.Ytilfdpllleninaa
