/- For all arguments, the program's RecoverEntries answers as the reference's: the law returns true; no condition. -/
import Derived.Test.YtodhhjcgjkfmpaaRows
import Derived.Test.YtodhhjcgjkfmpaaEngY
import Derived.Test.YtodhhjcgjkfmpaaZ3
import Derived.Test.YtodhhjcgjkfmpaaP16
import Derived.ChangeMaps5
namespace Go.Proofs.Ytodhhjcgjkfmpaa
set_option linter.unusedVariables false
set_option linter.unusedSimpArgs false
open Go.ChangeShapes Go.WideShapes Go.ChangeAt Go.RowKit

theorem Try.own : ownKnob Try.prog.godebug = none := by kernel_rfl
theorem Try.laidOut : laidOutB Try.prog = true := by kernel_rfl

set_option maxRecDepth 100000 in
theorem f3_lifted (os : Os) (started : os.Started) (H : Type) (enc : TypeId × Value → H) :
    ReturnsInHanded {} Try.checked os 3 .any (Rows.fnExactRecoverEntriesSpec.pre6 enc Try.prog Try.f3 Rows.fnExactRecoverEntriesRow.domain false) (Rows.fnExactRecoverEntriesSpec.post enc Try.prog Try.f3 false true false false) := by
  refine returnsInHanded_of_change (C := Try.checked) Try.own started (by kernel_rfl) Try.func3
    (ChangeSpec.witness6 (enc := enc) (C := Try.checked) false ⟨#[], #[.string ByteArray.empty], []⟩ 8 (by kernel_rfl) (by kernel_rfl) (by kernel_rfl) (by kernel_rfl)) ?_
  intro W base args ds gs before hval0 hW hcnd _
  have hval : ∀ (j : Nat) t v, Try.f3.params[j]? = some t → args[j]? = some v → Value.okWide Try.prog W .any base t v := hval0
  have hW' := hW
  obtain ⟨p, q, hA0, hV, hpq, hfz, hnd⟩ := hW
  have hA : DataW.TrodAll enc Try.prog W 0 (fun _ => true) true Try.f3.params.toList args.toList ds p := hA0
  rw [Try.params3] at hA hval
  obtain ⟨v0, d0, p0, hargs, rfl, hp, h0⟩ := trods1 hA
  subst hargs
  obtain ⟨a0, rfl, rfl, rfl, w0⟩ := Go.ChangeMaps.open_string Try.underlying9 (hval 0 9 v0 rfl rfl) h0
  obtain ⟨hn, hl⟩ := plain3 a0.data.toList
  have hF : laws_FnExactRecoverEntries_c.fn [.str a0.data.toList] = some ⟨.bool true, []⟩ := by
    show (DT.need (laws_FnExactRecoverEntries_need _) (.leaf (laws_FnExactRecoverEntries_mk (laws_FnExactRecoverEntries _)))).get = _
    rw [hn, hl]
    rfl
  refine (calls_of_fun (x := bodyOf Try.f3) Try.func3 (by kernel_rfl) (by kernel_rfl) (laws_FnExactRecoverEntries_ok W _ #[.string a0] _ hF (by
    simp only [VSims]
    exact ⟨by simp only [VSim]; exact ⟨a0, rfl, rfl⟩, trivial⟩))).mono fun e W' ⟨v, he, hR⟩ => ?_
  subst he
  have hv : v = .bool true := by
    obtain ⟨pr, φ, hv, _⟩ := hR
    simpa only [VSim] using hv
  subst hv
  exact ⟨_, rfl, post_law (tb := 4) Try.laidOut hW' rfl (by kernel_rfl) Try.underlying4 (by kernel_rfl) ⟨rfl, rfl, rfl⟩ hR⟩

theorem f3_holds : Rows.FnExactRecoverEntriesSaid :=
  OpenClaim.holds_of_wide 3 Try.f3 rfl rfl rfl rfl rfl rfl rfl ⟨rfl, rfl, rfl, rfl, rfl⟩ rfl rfl rfl rfl rfl (by kernel_rfl) Try.func3 f3_closed
    (of_decide_eq_true (by kernel_rfl)) (by unfold Func.isWrapper; first | (rw [if_pos (by decide +kernel)]; kernel_rfl) | (rw [if_neg (by decide +kernel)]; exact ⟨rfl, rfl⟩))
    (fun os started H enc _ => f3_lifted os started H enc)

end Go.Proofs.Ytodhhjcgjkfmpaa
