/- For all arguments, the program's RecoverJournal answers as the reference's: the law returns true; no condition of ours (the row's tables are tied to the program's text). -/
import Derived.Test.YtcipkfndnkmjlaaDoorRows
import Derived.Test.YtcipkfndnkmjlaaDoorCards
import Derived.Test.YtcipkfndnkmjlaaDoorTie
import Derived.Test.YtcipkfndnkmjlaaDoorEngY
import Derived.Test.YtcipkfndnkmjlaaDoorZ11
import Derived.Test.YtcipkfndnkmjlaaDoorP6
import Derived.ChangeMaps5
import Derived.Lay
import Derived.LaidOnce
import Derived.SevenTiedAt
import Derived.LaidSub
import Derived.Lib.LaidTab
namespace Go.Proofs.YtcipkfndnkmjlaaDoor
set_option linter.unusedVariables false
set_option linter.unusedSimpArgs false
open Go.ChangeShapes Go.WideShapes Go.ChangeAt Go.RowKit

theorem Tryd.own : ownKnob Tryd.prog.godebug = none := by kernel_rfl
theorem Tryd.laidOut : laidOutB Tryd.prog = true := by kernel_rfl

def laid11 : List (String × DataW Unit) := [("math/bits.deBruijn32tab", Rows.laid_math_bits_deBruijn32tab), ("math/bits.deBruijn64tab", Rows.laid_math_bits_deBruijn64tab), ("internal/strconv.uint64pow10", Rows.laid_internal_strconv_uint64pow10)]

theorem pow_data : (Rows.laid_internal_strconv_uint64pow10 : DataW Unit) = Go.Lib.tabData .u64 Go.Lib.pow10Tab := by kernel_rfl

/-- What the row lays is what the engine knows. -/
theorem iv_of_laid {W : World} (h : laidMetH Tryd.prog laid11 W) : IvOK W := by
  rw [MakeChecks.laidMetH_plain _ _ _ (by kernel_rfl)] at h
  have h1 := laidMet.filter (fun x => x.1 == "internal/strconv.uint64pow10") h
  have e : laid11.filter (fun x => x.1 == "internal/strconv.uint64pow10") = [("internal/strconv.uint64pow10", Go.Lib.tabData .u64 Go.Lib.pow10Tab)] := by
    rw [← pow_data]
    rfl
  rw [e] at h1
  have ht : Go.Lib.TabIs Tryd.prog W "internal/strconv.uint64pow10" .u64 Go.Lib.pow10Tab :=
    Go.Lib.tabIs_of_head (g := 2) (t := 197) (e := 162) (n := 20) (by kernel_rfl) (by kernel_rfl) Tryd.underlying197 Tryd.underlying162 (by kernel_rfl) (by kernel_rfl) h1
  refine ⟨ht, fun n hn => ?_⟩
  have hn : Tryd.prog.globalNamed "internal/strconv.uint64pow10" = some n := hn
  have hv := ht
  unfold Go.Lib.TabIs World.var? at hv
  rw [hn] at hv
  simp only [Option.bind_some] at hv
  rcases Nat.lt_or_ge n W.heap.size with h2 | h2
  · exact h2
  · rw [Array.getElem?_eq_none h2] at hv
    cases hv

set_option maxRecDepth 100000 in
theorem f11_lifted (os : Os) (started : os.Started) (H : Type) (enc : TypeId × Value → H) :
    ReturnsInHanded {} Tryd.checked os 11 .any (fun w args => (Rows.fnExactRecoverJournalSpec.pre enc Tryd.prog Tryd.f11 [] false w args ∧ laidMetH Tryd.prog laid11 w) ∧ sizedMet enc Tryd.prog Tryd.f11 (OpenSpec.ofChange Rows.fnExactRecoverJournalSpec) false w args)
      (Rows.fnExactRecoverJournalSpec.post enc Tryd.prog Tryd.f11 false true false false) := by
  refine returnsInHanded_of_change_and (C := Tryd.checked) (X := fun w _ => laidMetH Tryd.prog laid11 w) (fun _ _ _ hh h => h.of_heap hh) Tryd.own started (by kernel_rfl) Tryd.func11
    (ChangeSpec.witness_shaped (enc := enc) (C := Tryd.checked) (os := os) (X := fun w _ => laidMetH Tryd.prog laid11 w) false (World.laidAll Tryd.prog os laid11) #[.string ByteArray.empty] 8 (World.laidAll_os _ _ _)
      (World.shaped_of_ZipB (by kernel_rfl) (by kernel_rfl)) (by kernel_rfl) (by kernel_rfl) (by kernel_rfl)
      (by rw [MakeChecks.laidMetH_plain _ _ _ (by kernel_rfl)]; exact laidMet_laidAll _ (by kernel_rfl) (by kernel_rfl))) ?_
  intro W base args ds gs before hval0 hW _ _ hL _
  have hval : ∀ (j : Nat) t v, Tryd.f11.params[j]? = some t → args[j]? = some v → Value.okWide Tryd.prog W .any base t v := hval0
  have hW' := hW
  obtain ⟨p, q, hA0, hV, hpq, hfz, hnd⟩ := hW
  have hA : DataW.TrodAll enc Tryd.prog W 0 (fun _ => true) true Tryd.f11.params.toList args.toList ds p := hA0
  rw [Tryd.params11] at hA hval
  obtain ⟨v0, d0, p0, hargs, rfl, hp, h0⟩ := trods1 hA
  subst hargs
  obtain ⟨a0, rfl, rfl, rfl, w0⟩ := Go.ChangeMaps.open_string Tryd.underlying9 (hval 0 9 v0 rfl rfl) h0
  obtain ⟨hn, hl⟩ := plain11 a0.data.toList
  have hF : laws_FnExactRecoverJournal_c.fn [.str a0.data.toList] = some ⟨.bool true, []⟩ := by
    show (DT.need (laws_FnExactRecoverJournal_need _) (.leaf (laws_FnExactRecoverJournal_mk (laws_FnExactRecoverJournal _)))).get = _
    rw [hn, hl]
    rfl
  refine (calls_of_fun (x := bodyOf Tryd.f11) Tryd.func11 (by kernel_rfl) (by kernel_rfl) (laws_FnExactRecoverJournal_ok W _ #[.string a0] _ (iv_of_laid hL) hF (by
    simp only [VSims]
    exact ⟨by simp only [VSim]; exact ⟨a0, rfl, rfl⟩, trivial⟩))).mono fun e W' ⟨v, he, hR⟩ => ?_
  subst he
  have hv : v = .bool true := by
    obtain ⟨pr, φ, hv, _⟩ := hR
    simpa only [VSim] using hv
  subst hv
  exact ⟨_, rfl, post_law (tb := 4) Tryd.laidOut hW' rfl (by kernel_rfl) Tryd.underlying4 (by kernel_rfl) ⟨rfl, rfl, rfl⟩ hR⟩

theorem f11_row : Rows.FnExactRecoverJournalSaid :=
  OpenClaim.holds_of_wide 11 Tryd.f11 rfl rfl rfl rfl rfl rfl rfl ⟨rfl, rfl, rfl, rfl, rfl⟩ rfl rfl rfl rfl rfl (by kernel_rfl) Tryd.func11 f11_closed
    (of_decide_eq_true (by kernel_rfl)) (by unfold Func.isWrapper; first | (rw [if_pos (by decide +kernel)]; kernel_rfl) | (rw [if_neg (by decide +kernel)]; exact ⟨rfl, rfl⟩))
    (fun os started H enc _ => f11_lifted os started H enc)

set_option maxRecDepth 100000 in
theorem f11_holds : Rows.FnExactRecoverJournalCardSaid :=
  Claim7.holds_tied_plain_at .later [] [.data, .data, .data] true (true, "193fdc50a849b9448b3a334ac06d63c1d53a4d673d2000c9be468dc2779e2945") true
    f11_row (fun _ h => by cases h) (by kernel_rfl) (fun _ h => by cases h) fnExactRecoverJournal_row_tie rfl ⟨rfl, rfl⟩ (by kernel_rfl) rfl
    (fun f fn hf hfn => by
      obtain rfl : f = 11 := Option.some.inj ((show Tryd.prog.funcNamed "loop.example/g01284/laws.FnExactRecoverJournal" = some 11 by kernel_rfl).symm.trans hf) |>.symm
      obtain rfl : fn = Tryd.f11 := (Option.some.inj (Tryd.func11.symm.trans hfn)).symm
      exact ⟨by kernel_rfl, fun j t ht => by
        rw [Tryd.params11] at ht
        have hm : t ∈ [9] := by simpa using Array.mem_of_getElem? ht
        have hall : ([9].all fun u => !Tryd.prog.wantsStandIn u) = true := by kernel_rfl
        exact (show Tryd.prog.wantsStandIn t = false by simpa using List.all_eq_true.1 hall t hm)⟩)
    (by kernel_rfl)

end Go.Proofs.YtcipkfndnkmjlaaDoor
