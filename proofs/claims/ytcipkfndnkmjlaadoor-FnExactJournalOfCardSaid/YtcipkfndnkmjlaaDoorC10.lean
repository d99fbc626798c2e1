/- For all arguments, the program's JournalOf answers as the reference's: the law returns true; no condition of ours (the row's tables are tied to the program's text). -/
import Derived.Test.YtcipkfndnkmjlaaDoorRows
import Derived.Test.YtcipkfndnkmjlaaDoorCards
import Derived.Test.YtcipkfndnkmjlaaDoorTie
import Derived.Test.YtcipkfndnkmjlaaDoorEngY
import Derived.Test.YtcipkfndnkmjlaaDoorZ10
import Derived.Test.YtcipkfndnkmjlaaDoorJ3
import Derived.ChangeMaps5
import Derived.Lay
import Derived.LaidOnce
import Derived.SevenTiedAt
import Derived.LaidSub
import Derived.Lib.LaidTab
namespace Go.Proofs.YtcipkfndnkmjlaaDoor
set_option linter.unusedVariables false
set_option linter.unusedSimpArgs false
open Go.ChangeShapes Go.WideShapes Go.ChangeAt Go.RowKit

theorem Tryd.own : ownKnob Tryd.prog.godebug = none := by kernel_rfl
theorem Tryd.laidOut : laidOutB Tryd.prog = true := by kernel_rfl

def laid10 : List (String × DataW Unit) := [("math/bits.deBruijn32tab", Rows.laid_math_bits_deBruijn32tab), ("math/bits.deBruijn64tab", Rows.laid_math_bits_deBruijn64tab), ("internal/strconv.uint64pow10", Rows.laid_internal_strconv_uint64pow10)]

def places : List Int := Go.Lib.deBruijn64tab.map fun n : Nat => (n : Int)
theorem pow_data : (Rows.laid_internal_strconv_uint64pow10 : DataW Unit) = Go.Lib.tabData .u64 Go.Lib.pow10Tab := by kernel_rfl
theorem places_data : (Rows.laid_math_bits_deBruijn64tab : DataW Unit) = Go.Lib.tabData .u8 places := by kernel_rfl

theorem tab_lt {W : World} {nm : String} {k : IntKind} {tab : List Int} (hv : Go.Lib.TabIs Tryd.prog W nm k tab) {n : Nat} (hn : Tryd.prog.globalNamed nm = some n) : n < W.heap.size := by
  unfold Go.Lib.TabIs World.var? at hv
  rw [hn] at hv
  simp only [Option.bind_some] at hv
  rcases Nat.lt_or_ge n W.heap.size with h2 | h2
  · exact h2
  · rw [Array.getElem?_eq_none h2] at hv
    cases hv

/-- What the row lays is what the engine knows. -/
theorem iv_of_laid {W : World} (h : laidMetH Tryd.prog laid10 W) : IvOK W := by
  rw [MakeChecks.laidMetH_plain _ _ _ (by kernel_rfl)] at h
  have h1 := laidMet.filter (fun x => x.1 == "internal/strconv.uint64pow10") h
  have e : laid10.filter (fun x => x.1 == "internal/strconv.uint64pow10") = [("internal/strconv.uint64pow10", Go.Lib.tabData .u64 Go.Lib.pow10Tab)] := by
    rw [← pow_data]
    rfl
  rw [e] at h1
  have ht : Go.Lib.TabIs Tryd.prog W "internal/strconv.uint64pow10" .u64 Go.Lib.pow10Tab :=
    Go.Lib.tabIs_of_head (g := 2) (t := 197) (e := 162) (n := 20) (by kernel_rfl) (by kernel_rfl) Tryd.underlying197 Tryd.underlying162 (by kernel_rfl) (by kernel_rfl) h1
  have h2 := laidMet.filter (fun x => x.1 == "math/bits.deBruijn64tab") h
  have e2 : laid10.filter (fun x => x.1 == "math/bits.deBruijn64tab") = [("math/bits.deBruijn64tab", Go.Lib.tabData .u8 places)] := by
    rw [← places_data]
    rfl
  rw [e2] at h2
  have ht2 : Go.Lib.TabIs Tryd.prog W "math/bits.deBruijn64tab" .u8 places :=
    Go.Lib.tabIs_of_head (g := 6) (t := 215) (e := 5) (n := 64) (by kernel_rfl) (by kernel_rfl) Tryd.underlying215 Tryd.underlying5 (by kernel_rfl) (by kernel_rfl) h2
  exact ⟨⟨ht, ht2⟩, fun n hn => hn.elim (tab_lt ht) (tab_lt ht2)⟩

set_option maxRecDepth 100000 in
theorem f10_lifted (os : Os) (started : os.Started) (H : Type) (enc : TypeId × Value → H) :
    ReturnsInHanded {} Tryd.checked os 10 .any (fun w args => (Rows.fnExactJournalOfSpec.pre enc Tryd.prog Tryd.f10 [] false w args ∧ laidMetH Tryd.prog laid10 w) ∧ sizedMet enc Tryd.prog Tryd.f10 (OpenSpec.ofChange Rows.fnExactJournalOfSpec) false w args)
      (Rows.fnExactJournalOfSpec.post enc Tryd.prog Tryd.f10 false true false false) := by
  refine returnsInHanded_of_change_and (C := Tryd.checked) (X := fun w _ => laidMetH Tryd.prog laid10 w) (fun _ _ _ hh h => h.of_heap hh) Tryd.own started (by kernel_rfl) Tryd.func10
    (ChangeSpec.witness_shaped (enc := enc) (C := Tryd.checked) (os := os) (X := fun w _ => laidMetH Tryd.prog laid10 w) false (World.laidAll Tryd.prog os laid10) #[.slice none 0 0] 8 (World.laidAll_os _ _ _)
      (World.shaped_of_ZipB (by kernel_rfl) (by kernel_rfl)) (by kernel_rfl) (by kernel_rfl) (by kernel_rfl)
      (by rw [MakeChecks.laidMetH_plain _ _ _ (by kernel_rfl)]; exact laidMet_laidAll _ (by kernel_rfl) (by kernel_rfl))) ?_
  intro W base args ds gs before hval0 hW _ _ hL _
  have hval : ∀ (j : Nat) t v, Tryd.f10.params[j]? = some t → args[j]? = some v → Value.okWide Tryd.prog W .any base t v := hval0
  have hW' := hW
  obtain ⟨p, q, hA0, hV, hpq, hfz, hnd⟩ := hW
  have hA : DataW.TrodAll enc Tryd.prog W 0 (fun _ => true) true Tryd.f10.params.toList args.toList ds p := hA0
  rw [Tryd.params10] at hA hval
  obtain ⟨v0, d0, p0, hargs, rfl, hp, h0⟩ := trods1 hA
  subst hargs
  obtain ⟨x0, n0, f0, s0⟩ := open_row (c := .str) (n := 4) (ar := #[v0]) (i := 0) rfl Tryd.underlying63 (by kernel_rfl) (by kernel_rfl) (okWide_slice Tryd.underlying63 (hval 0 63 v0 rfl rfl)) h0 rfl
  obtain ⟨hn, hl⟩ := plain10 x0 n0 f0
  have hF : laws_FnExactJournalOf_c.fn [.vslc 1 .str x0] = some ⟨.bool true, []⟩ := by
    show (DT.need (laws_FnExactJournalOf_need _) (.leaf (laws_FnExactJournalOf_mk (laws_FnExactJournalOf _)))).get = _
    rw [hn, hl]
    rfl
  refine (calls_of_fun (x := bodyOf Tryd.f10) Tryd.func10 (by kernel_rfl) (by kernel_rfl) (laws_FnExactJournalOf_ok W _ #[v0] _ (iv_of_laid hL) hF (by
    simp only [VSims]
    exact ⟨s0, trivial⟩))).mono fun e W' ⟨v, he, hR⟩ => ?_
  subst he
  have hv : v = .bool true := by
    obtain ⟨pr, φ, hv, _⟩ := hR
    simpa only [VSim] using hv
  subst hv
  exact ⟨_, rfl, post_law (tb := 4) Tryd.laidOut hW' rfl (by kernel_rfl) Tryd.underlying4 (by kernel_rfl) ⟨rfl, rfl, rfl⟩ hR⟩

theorem f10_row : Rows.FnExactJournalOfSaid :=
  OpenClaim.holds_of_wide 10 Tryd.f10 rfl rfl rfl rfl rfl rfl rfl ⟨rfl, rfl, rfl, rfl, rfl⟩ rfl rfl rfl rfl rfl (by kernel_rfl) Tryd.func10 f10_closed
    (of_decide_eq_true (by kernel_rfl)) (by unfold Func.isWrapper; first | (rw [if_pos (by decide +kernel)]; kernel_rfl) | (rw [if_neg (by decide +kernel)]; exact ⟨rfl, rfl⟩))
    (fun os started H enc _ => f10_lifted os started H enc)

set_option maxRecDepth 100000 in
theorem f10_holds : Rows.FnExactJournalOfCardSaid :=
  Claim7.holds_tied_plain_at .later [] [.data, .data, .data] true (true, "193fdc50a849b9448b3a334ac06d63c1d53a4d673d2000c9be468dc2779e2945") true
    f10_row (fun _ h => by cases h) (by kernel_rfl) (fun _ h => by cases h) fnExactJournalOf_row_tie rfl ⟨rfl, rfl⟩ (by kernel_rfl) rfl
    (fun f fn hf hfn => by
      obtain rfl : f = 10 := Option.some.inj ((show Tryd.prog.funcNamed "loop.example/g01284/laws.FnExactJournalOf" = some 10 by kernel_rfl).symm.trans hf) |>.symm
      obtain rfl : fn = Tryd.f10 := (Option.some.inj (Tryd.func10.symm.trans hfn)).symm
      exact ⟨by kernel_rfl, fun j t ht => by
        rw [Tryd.params10] at ht
        have hm : t ∈ [63] := by simpa using Array.mem_of_getElem? ht
        have hall : ([63].all fun u => !Tryd.prog.wantsStandIn u) = true := by kernel_rfl
        exact (show Tryd.prog.wantsStandIn t = false by simpa using List.all_eq_true.1 hall t hm)⟩)
    (by kernel_rfl)

end Go.Proofs.YtcipkfndnkmjlaaDoor
