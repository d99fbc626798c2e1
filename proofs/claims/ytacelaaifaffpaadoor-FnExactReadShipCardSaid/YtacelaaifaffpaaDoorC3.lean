/- For all arguments, the program's ReadShip answers as the reference's: the law returns true; no condition of ours (the row's tables are tied to the program's text). -/
import Derived.Test.YtacelaaifaffpaaDoorRows
import Derived.Test.YtacelaaifaffpaaDoorCards
import Derived.Test.YtacelaaifaffpaaDoorTie
import Derived.Test.YtacelaaifaffpaaDoorEngY
import Derived.Test.YtacelaaifaffpaaDoorZ3
import Derived.Test.YtacelaaifaffpaaDoorS2
import Derived.ChangeMaps5
import Derived.Lay
import Derived.LaidOnce
import Derived.SevenTiedAt
import Derived.LaidSub
import Derived.Lib.LaidTab
import Derived.Stop.LaidErr
namespace Go.Proofs.YtacelaaifaffpaaDoor
set_option linter.unusedVariables false
set_option linter.unusedSimpArgs false
open Go.ChangeShapes Go.WideShapes Go.ChangeAt Go.RowKit

theorem Tryd.own : ownKnob Tryd.prog.godebug = none := by kernel_rfl
theorem Tryd.laidOut : laidOutB Tryd.prog = true := by kernel_rfl

def laid3 : List (String × DataW Unit) := [("math/bits.deBruijn32tab", Rows.laid_math_bits_deBruijn32tab), ("math/bits.deBruijn64tab", Rows.laid_math_bits_deBruijn64tab), ("internal/strconv.uint64pow10", Rows.laid_internal_strconv_uint64pow10), ("unicode/utf8.acceptRanges", Rows.laid_unicode_utf8_acceptRanges), ("strconv.ErrRange", Rows.laid_strconv_ErrRange), ("strconv.ErrSyntax", Rows.laid_strconv_ErrSyntax), ("unicode/utf8.first", Rows.laid_unicode_utf8_first)]

def places : List Int := Go.Lib.deBruijn64tab.map fun n : Nat => (n : Int)
theorem pow_data : (Rows.laid_internal_strconv_uint64pow10 : DataW Unit) = Go.Lib.tabData .u64 Go.Lib.pow10Tab := by kernel_rfl
theorem places_data : (Rows.laid_math_bits_deBruijn64tab : DataW Unit) = Go.Lib.tabData .u8 places := by kernel_rfl

theorem tab_lt {W : World} {nm : String} {k : IntKind} {tab : List Int} (hv : Go.Lib.TabIs Tryd.prog W nm k tab) {n : Nat} (hn : Tryd.prog.globalNamed nm = some n) : n < W.heap.size := by
  unfold Go.Lib.TabIs World.var? at hv
  rw [hn] at hv
  simp only [Option.bind_some] at hv
  rcases Nat.lt_or_ge n W.heap.size with h2 | h2
  · exact h2
  · rw [Array.getElem?_eq_none h2] at hv
    cases hv

theorem star : "*" ++ "errors.errorString" = "*errors.errorString" := by decide
theorem row_err (u : TypeId) (h : Tryd.prog.typeName? 3 u = some "*errors.errorString") : u = 107 :=
  typeName_ptr_named (nm := "errors.errorString") (by rw [star]; kernel_rfl) (by kernel_rfl) (by decide) u (by rw [star]; exact h)

theorem err_of {W : World} {n : String} {text : List UInt8} {g : Nat} (h : laidMet Tryd.prog [(n, .iface "*errors.errorString" (.ptr (.agg [.lit (.string text)])))] W) (hg : Tryd.prog.globalNamed n = some g) (ht : (Tryd.prog.globals[g]?).map (·.type) = some 50) : ∃ ev, W.cell? ⟨g, 0, none⟩ = some ev ∧ (ev = .nilIface ∨ ∃ te pe, ev = .iface te pe) := by
  obtain ⟨a, s, hv, _⟩ := laid_sentinel h hg ht Tryd.underlying50 row_err Tryd.underlying107 Tryd.underlying109 rfl rfl Tryd.underlying9 (by kernel_rfl) (by kernel_rfl)
  exact ⟨_, by simpa using World.var?_cell hg hv 0, .inr ⟨_, _, rfl⟩⟩

/-- What the row lays is what the engine knows. -/
theorem iv_of_laid {W : World} (h : laidMetH Tryd.prog laid3 W) : IvOK W := by
  rw [MakeChecks.laidMetH_plain _ _ _ (by kernel_rfl)] at h
  have h1 := laidMet.filter (fun x => x.1 == "internal/strconv.uint64pow10") h
  have e : laid3.filter (fun x => x.1 == "internal/strconv.uint64pow10") = [("internal/strconv.uint64pow10", Go.Lib.tabData .u64 Go.Lib.pow10Tab)] := by
    rw [← pow_data]
    rfl
  rw [e] at h1
  have ht : Go.Lib.TabIs Tryd.prog W "internal/strconv.uint64pow10" .u64 Go.Lib.pow10Tab :=
    Go.Lib.tabIs_of_head (g := 4) (t := 111) (e := 48) (n := 20) (by kernel_rfl) (by kernel_rfl) Tryd.underlying111 Tryd.underlying48 (by kernel_rfl) (by kernel_rfl) h1
  have h2 := laidMet.filter (fun x => x.1 == "math/bits.deBruijn64tab") h
  have e2 : laid3.filter (fun x => x.1 == "math/bits.deBruijn64tab") = [("math/bits.deBruijn64tab", Go.Lib.tabData .u8 places)] := by
    rw [← places_data]
    rfl
  rw [e2] at h2
  have ht2 : Go.Lib.TabIs Tryd.prog W "math/bits.deBruijn64tab" .u8 places :=
    Go.Lib.tabIs_of_head (g := 8) (t := 128) (e := 5) (n := 64) (by kernel_rfl) (by kernel_rfl) Tryd.underlying128 Tryd.underlying5 (by kernel_rfl) (by kernel_rfl) h2
  have h3 := laidMet.filter (fun x => x.1 == "strconv.ErrSyntax") h
  have h4 := laidMet.filter (fun x => x.1 == "strconv.ErrRange") h
  have k3 := err_of (n := "strconv.ErrSyntax") (g := 1) h3 (by kernel_rfl) (by kernel_rfl)
  have k4 := err_of (n := "strconv.ErrRange") (g := 2) h4 (by kernel_rfl) (by kernel_rfl)
  refine ⟨⟨ht, ht2, k3, k4⟩, fun n hn => ?_⟩
  rcases hn with hn | hn | hn | hn
  · exact tab_lt ht hn
  · exact tab_lt ht2 hn
  · obtain ⟨ev, he, _⟩ := k3
    rw [hn]
    exact World.block_lt_of_cell? _ _ he
  · obtain ⟨ev, he, _⟩ := k4
    rw [hn]
    exact World.block_lt_of_cell? _ _ he

set_option maxRecDepth 100000 in
theorem f3_lifted (os : Os) (started : os.Started) (H : Type) (enc : TypeId × Value → H) :
    ReturnsInHanded {} Tryd.checked os 3 .any (fun w args => (Rows.fnExactReadShipSpec.pre enc Tryd.prog Tryd.f3 [] false w args ∧ laidMetH Tryd.prog laid3 w) ∧ sizedMet enc Tryd.prog Tryd.f3 (OpenSpec.ofChange Rows.fnExactReadShipSpec) false w args)
      (Rows.fnExactReadShipSpec.post enc Tryd.prog Tryd.f3 false true false false) := by
  refine returnsInHanded_of_change_and (C := Tryd.checked) (X := fun w _ => laidMetH Tryd.prog laid3 w) (fun _ _ _ hh h => h.of_heap hh) Tryd.own started (by kernel_rfl) Tryd.func3
    (ChangeSpec.witness_shaped (enc := enc) (C := Tryd.checked) (os := os) (X := fun w _ => laidMetH Tryd.prog laid3 w) false (World.laidAll Tryd.prog os laid3) #[.string ByteArray.empty] 8 (World.laidAll_os _ _ _)
      (World.shaped_of_ZipB (by kernel_rfl) (by kernel_rfl)) (by kernel_rfl) (by kernel_rfl) (by kernel_rfl)
      (by rw [MakeChecks.laidMetH_plain _ _ _ (by kernel_rfl)]; exact laidMet_laidAll _ (by kernel_rfl) (by kernel_rfl))) ?_
  intro W base args ds gs before hval0 hW _ _ hL _
  have hval : ∀ (j : Nat) t v, Tryd.f3.params[j]? = some t → args[j]? = some v → Value.okWide Tryd.prog W .any base t v := hval0
  have hW' := hW
  obtain ⟨p, q, hA0, hV, hpq, hfz, hnd⟩ := hW
  have hA : DataW.TrodAll enc Tryd.prog W 0 (fun _ => true) true Tryd.f3.params.toList args.toList ds p := hA0
  rw [Tryd.params3] at hA hval
  obtain ⟨v0, d0, p0, hargs, rfl, hp, h0⟩ := trods1 hA
  subst hargs
  obtain ⟨a0, rfl, rfl, rfl, w0⟩ := Go.ChangeMaps.open_string Tryd.underlying9 (hval 0 9 v0 rfl rfl) h0
  obtain ⟨hn, hl⟩ := plain3 a0.data.toList
  have hF : laws_FnExactReadShip_c.fn [.str a0.data.toList] = some ⟨.bool true, []⟩ := by
    show (DT.need (laws_FnExactReadShip_need _) (.leaf (laws_FnExactReadShip_mk (laws_FnExactReadShip _)))).get = _
    rw [hn, hl]
    rfl
  refine (calls_of_fun (x := bodyOf Tryd.f3) Tryd.func3 (by kernel_rfl) (by kernel_rfl) (laws_FnExactReadShip_ok W _ #[.string a0] _ (iv_of_laid hL) hF (by
    simp only [VSims]
    exact ⟨by simp only [VSim]; exact ⟨a0, rfl, rfl⟩, trivial⟩))).mono fun e W' ⟨v, he, hR⟩ => ?_
  subst he
  have hv : v = .bool true := by
    obtain ⟨pr, φ, hv, _⟩ := hR
    simpa only [VSim] using hv
  subst hv
  exact ⟨_, rfl, post_law (tb := 4) Tryd.laidOut hW' rfl (by kernel_rfl) Tryd.underlying4 (by kernel_rfl) ⟨rfl, rfl, rfl⟩ hR⟩

theorem f3_row : Rows.FnExactReadShipSaid :=
  OpenClaim.holds_of_wide 3 Tryd.f3 rfl rfl rfl rfl rfl rfl rfl ⟨rfl, rfl, rfl, rfl, rfl⟩ rfl rfl rfl rfl rfl (by kernel_rfl) Tryd.func3 f3_closed
    (of_decide_eq_true (by kernel_rfl)) (by unfold Func.isWrapper; first | (rw [if_pos (by decide +kernel)]; kernel_rfl) | (rw [if_neg (by decide +kernel)]; exact ⟨rfl, rfl⟩))
    (fun os started H enc _ => f3_lifted os started H enc)

set_option maxRecDepth 100000 in
theorem f3_holds : Rows.FnExactReadShipCardSaid :=
  Claim7.holds_tied_plain_at .later [] [.data, .data, .data, .data, .sentinel, .sentinel, .pinned] true (true, "b521c696c799159f3e18c453d12a8f11cc8f265712f77e0ac41564fc3d917653") true
    f3_row (fun _ h => by cases h) (by kernel_rfl) (fun _ h => by cases h) fnExactReadShip_row_tie rfl ⟨rfl, rfl⟩ (by kernel_rfl) rfl
    (fun f fn hf hfn => by
      obtain rfl : f = 3 := Option.some.inj ((show Tryd.prog.funcNamed "loop.example/g01284/laws.FnExactReadShip" = some 3 by kernel_rfl).symm.trans hf) |>.symm
      obtain rfl : fn = Tryd.f3 := (Option.some.inj (Tryd.func3.symm.trans hfn)).symm
      exact ⟨by kernel_rfl, fun j t ht => by
        rw [Tryd.params3] at ht
        have hm : t ∈ [9] := by simpa using Array.mem_of_getElem? ht
        have hall : ([9].all fun u => !Tryd.prog.wantsStandIn u) = true := by kernel_rfl
        exact (show Tryd.prog.wantsStandIn t = false by simpa using List.all_eq_true.1 hall t hm)⟩)
    (by kernel_rfl)

end Go.Proofs.YtacelaaifaffpaaDoor
