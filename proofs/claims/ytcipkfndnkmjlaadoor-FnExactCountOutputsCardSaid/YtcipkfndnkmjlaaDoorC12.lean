/- For all arguments, the program's CountOutputs answers as the reference's: the law returns true; no condition of ours (the row's tables are tied to the program's text). -/
import Derived.Test.YtcipkfndnkmjlaaDoorRows
import Derived.Test.YtcipkfndnkmjlaaDoorCards
import Derived.Test.YtcipkfndnkmjlaaDoorTie
import Derived.Test.YtcipkfndnkmjlaaDoorEngY
import Derived.Test.YtcipkfndnkmjlaaDoorZ12
import Derived.Test.YtcipkfndnkmjlaaDoorP2
import Derived.ChangeMaps5
import Derived.Lay
import Derived.LaidOnce
import Derived.SevenTiedAt
namespace Go.Proofs.YtcipkfndnkmjlaaDoor
set_option linter.unusedVariables false
set_option linter.unusedSimpArgs false
open Go.ChangeShapes Go.WideShapes Go.ChangeAt Go.RowKit

theorem Tryd.own : ownKnob Tryd.prog.godebug = none := by kernel_rfl
theorem Tryd.laidOut : laidOutB Tryd.prog = true := by kernel_rfl

def laid12 : List (String × DataW Unit) := [("unicode/utf8.acceptRanges", Rows.laid_unicode_utf8_acceptRanges), ("unicode/utf8.first", Rows.laid_unicode_utf8_first)]

set_option maxRecDepth 100000 in
theorem f12_lifted (os : Os) (started : os.Started) (H : Type) (enc : TypeId × Value → H) :
    ReturnsInHanded {} Tryd.checked os 12 .any (fun w args => (Rows.fnExactCountOutputsSpec.pre enc Tryd.prog Tryd.f12 [] false w args ∧ laidMetH Tryd.prog laid12 w) ∧ sizedMet enc Tryd.prog Tryd.f12 (OpenSpec.ofChange Rows.fnExactCountOutputsSpec) false w args)
      (Rows.fnExactCountOutputsSpec.post enc Tryd.prog Tryd.f12 false true false false) := by
  refine returnsInHanded_of_change_and (C := Tryd.checked) (X := fun w _ => laidMetH Tryd.prog laid12 w) (fun _ _ _ hh h => h.of_heap hh) Tryd.own started (by kernel_rfl) Tryd.func12
    (ChangeSpec.witness_shaped (enc := enc) (C := Tryd.checked) (os := os) (X := fun w _ => laidMetH Tryd.prog laid12 w) false (World.laidAll Tryd.prog os laid12) #[.string ByteArray.empty] 8 (World.laidAll_os _ _ _)
      (World.shaped_of_ZipB (by kernel_rfl) (by kernel_rfl)) (by kernel_rfl) (by kernel_rfl) (by kernel_rfl)
      (by rw [MakeChecks.laidMetH_plain _ _ _ (by kernel_rfl)]; exact laidMet_laidAll _ (by kernel_rfl) (by kernel_rfl))) ?_
  intro W base args ds gs before hval0 hW _ _ hL _
  have hval : ∀ (j : Nat) t v, Tryd.f12.params[j]? = some t → args[j]? = some v → Value.okWide Tryd.prog W .any base t v := hval0
  have hW' := hW
  obtain ⟨p, q, hA0, hV, hpq, hfz, hnd⟩ := hW
  have hA : DataW.TrodAll enc Tryd.prog W 0 (fun _ => true) true Tryd.f12.params.toList args.toList ds p := hA0
  rw [Tryd.params12] at hA hval
  obtain ⟨v0, d0, p0, hargs, rfl, hp, h0⟩ := trods1 hA
  subst hargs
  obtain ⟨a0, rfl, rfl, rfl, w0⟩ := Go.ChangeMaps.open_string Tryd.underlying9 (hval 0 9 v0 rfl rfl) h0
  obtain ⟨hn, hl⟩ := plain12 a0.data.toList
  have hF : laws_FnExactCountOutputs_c.fn [.str a0.data.toList] = some ⟨.bool true, []⟩ := by
    show (DT.need (laws_FnExactCountOutputs_need _) (.leaf (laws_FnExactCountOutputs_mk (laws_FnExactCountOutputs _)))).get = _
    rw [hn, hl]
    rfl
  refine (calls_of_fun (x := bodyOf Tryd.f12) Tryd.func12 (by kernel_rfl) (by kernel_rfl) (laws_FnExactCountOutputs_ok W _ #[.string a0] _ hF (by
    simp only [VSims]
    exact ⟨by simp only [VSim]; exact ⟨a0, rfl, rfl⟩, trivial⟩))).mono fun e W' ⟨v, he, hR⟩ => ?_
  subst he
  have hv : v = .bool true := by
    obtain ⟨pr, φ, hv, _⟩ := hR
    simpa only [VSim] using hv
  subst hv
  exact ⟨_, rfl, post_law (tb := 4) Tryd.laidOut hW' rfl (by kernel_rfl) Tryd.underlying4 (by kernel_rfl) ⟨rfl, rfl, rfl⟩ hR⟩

theorem f12_row : Rows.FnExactCountOutputsSaid :=
  OpenClaim.holds_of_wide 12 Tryd.f12 rfl rfl rfl rfl rfl rfl rfl ⟨rfl, rfl, rfl, rfl, rfl⟩ rfl rfl rfl rfl rfl (by kernel_rfl) Tryd.func12 f12_closed
    (of_decide_eq_true (by kernel_rfl)) (by unfold Func.isWrapper; first | (rw [if_pos (by decide +kernel)]; kernel_rfl) | (rw [if_neg (by decide +kernel)]; exact ⟨rfl, rfl⟩))
    (fun os started H enc _ => f12_lifted os started H enc)

theorem f12_holds : Rows.FnExactCountOutputsCardSaid :=
  Claim7.holds_tied_plain_at .later [] [.data, .pinned] true (true, "193fdc50a849b9448b3a334ac06d63c1d53a4d673d2000c9be468dc2779e2945") true
    f12_row (fun _ h => by cases h) (by kernel_rfl) (fun _ h => by cases h) fnExactCountOutputs_row_tie rfl ⟨rfl, rfl⟩ (by kernel_rfl) rfl
    (fun f fn hf hfn => by
      obtain rfl : f = 12 := Option.some.inj ((show Tryd.prog.funcNamed "loop.example/g01284/laws.FnExactCountOutputs" = some 12 by kernel_rfl).symm.trans hf) |>.symm
      obtain rfl : fn = Tryd.f12 := (Option.some.inj (Tryd.func12.symm.trans hfn)).symm
      exact ⟨by kernel_rfl, fun j t ht => by
        rw [Tryd.params12] at ht
        have hm : t ∈ [9] := by simpa using Array.mem_of_getElem? ht
        have hall : ([9].all fun u => !Tryd.prog.wantsStandIn u) = true := by kernel_rfl
        exact (show Tryd.prog.wantsStandIn t = false by simpa using List.all_eq_true.1 hall t hm)⟩)
    (by kernel_rfl)

end Go.Proofs.YtcipkfndnkmjlaaDoor
