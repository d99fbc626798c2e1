/- The program's NewDesk answers as the reference's: the law returns true; no condition. -/
import Derived.Test.YtacelaaifaffpaaRows
import Derived.Test.YtacelaaifaffpaaEngY
import Derived.Test.YtacelaaifaffpaaZ3
import Derived.Test.YtacelaaifaffpaaD9
namespace Go.Proofs.Ytacelaaifaffpaa
set_option linter.unusedVariables false
set_option linter.unusedSimpArgs false
open Go.ChangeShapes Go.WideShapes Go.ChangeAt Go.RowKit

theorem Try.own : ownKnob Try.prog.godebug = none := by kernel_rfl
theorem Try.laidOut : laidOutB Try.prog = true := by kernel_rfl

set_option maxRecDepth 100000 in
theorem f3_lifted (os : Os) (started : os.Started) (H : Type) (enc : TypeId × Value → H) :
    ReturnsInHanded {} Try.checked os 3 .any (Rows.fnExactNewDeskSpec.pre6 enc Try.prog Try.f3 Rows.fnExactNewDeskRow.domain false) (Rows.fnExactNewDeskSpec.post enc Try.prog Try.f3 false true false false) := by
  refine returnsInHanded_of_change (C := Try.checked) Try.own started (by kernel_rfl) Try.func3
    (ChangeSpec.witness6 (enc := enc) (C := Try.checked) false ⟨#[], #[], []⟩ 8 (by kernel_rfl) (by kernel_rfl) (by kernel_rfl) (by kernel_rfl)) ?_
  intro W base args ds gs before hval0 hW hcnd _
  have hW' := hW
  obtain ⟨p, q, hA0, hV, hpq, hfz, hnd⟩ := hW
  have hA : DataW.TrodAll enc Try.prog W 0 (fun _ => true) true Try.f3.params.toList args.toList ds p := hA0
  rw [Try.params3] at hA
  have hargs : args = #[] ∧ ds = [] := by
    obtain ⟨l⟩ := args
    cases l with
    | nil => cases ds with
      | nil => exact ⟨rfl, rfl⟩
      | cons d r => exact absurd hA (by simp [DataW.TrodAll])
    | cons a r => exact absurd hA (by simp [DataW.TrodAll])
  obtain ⟨rfl, rfl⟩ := hargs
  refine (law_w W).mono fun e W' ⟨he, hb⟩ => ?_
  subst he
  have hiv : IvOK W := ⟨trivial, fun _ h => h.elim⟩
  have hR : RetSim W W' #[] ⟨.bool true, []⟩ (.bool true) :=
    ⟨fun n => n < W.heap.size, fun _ => undef, by simp only [VSim], ⟨fun id b h => (by cases h), fun id b n h => (by cases h), fun i j bi bj n h => (by cases h), fun n hn _ => hb.block n hn, hb.os, hb.tape, hb.output, hb.size, fun n hn => Nat.lt_of_lt_of_le hn hb.size, hiv.1, fun n hn => ⟨hiv.2 n hn, fun e => e⟩⟩⟩
  exact ⟨_, rfl, post_law (tb := 4) Try.laidOut hW' rfl (by kernel_rfl) Try.underlying4 (by kernel_rfl) ⟨rfl, rfl, rfl⟩ hR⟩

theorem f3_holds : Rows.FnExactNewDeskSaid :=
  OpenClaim.holds_of_wide 3 Try.f3 rfl rfl rfl rfl rfl rfl rfl ⟨rfl, rfl, rfl, rfl, rfl⟩ rfl rfl rfl rfl rfl (by kernel_rfl) Try.func3 f3_closed
    (of_decide_eq_true (by kernel_rfl)) (by unfold Func.isWrapper; first | (rw [if_pos (by decide +kernel)]; kernel_rfl) | (rw [if_neg (by decide +kernel)]; exact ⟨rfl, rfl⟩))
    (fun os started H enc _ => f3_lifted os started H enc)

end Go.Proofs.Ytacelaaifaffpaa
