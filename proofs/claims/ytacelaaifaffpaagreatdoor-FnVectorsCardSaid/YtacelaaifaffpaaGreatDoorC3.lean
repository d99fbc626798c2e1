/- For all arguments, the law of vectors returns true; no condition of ours (the row's tables are tied to the program's text). -/
import Derived.Test.YtacelaaifaffpaaGreatDoorRows
import Derived.Test.YtacelaaifaffpaaGreatDoorCards
import Derived.Test.YtacelaaifaffpaaGreatDoorTie
import Derived.Test.YtacelaaifaffpaaGreatDoorEngY
import Derived.Test.YtacelaaifaffpaaGreatDoorZ3
import Derived.Test.YtacelaaifaffpaaGreatDoorV2
import Derived.ChangeMaps5
import Derived.Lay
import Derived.LaidOnce
import Derived.SevenTiedAt
import Derived.LaidSub
import Derived.Lib.LaidTab
import Derived.Stop.LaidErr
namespace Go.Proofs.YtacelaaifaffpaaGreatDoor
set_option linter.unusedVariables false
set_option linter.unusedSimpArgs false
open Go.ChangeShapes Go.WideShapes Go.ChangeAt Go.RowKit

theorem Tryz.own : ownKnob Tryz.prog.godebug = none := by kernel_rfl
theorem Tryz.laidOut : laidOutB Tryz.prog = true := by kernel_rfl

def laid3 : List (String × DataW Unit) := [("math/bits.deBruijn32tab", Rows.laid_math_bits_deBruijn32tab), ("math/bits.deBruijn64tab", Rows.laid_math_bits_deBruijn64tab), ("internal/strconv.uint64pow10", Rows.laid_internal_strconv_uint64pow10), ("unicode/utf8.acceptRanges", Rows.laid_unicode_utf8_acceptRanges), ("strconv.ErrRange", Rows.laid_strconv_ErrRange), ("strconv.ErrSyntax", Rows.laid_strconv_ErrSyntax), ("unicode/utf8.first", Rows.laid_unicode_utf8_first)]

def places : List Int := Go.Lib.deBruijn64tab.map fun n : Nat => (n : Int)
theorem pow_data : (Rows.laid_internal_strconv_uint64pow10 : DataW Unit) = Go.Lib.tabData .u64 Go.Lib.pow10Tab := by kernel_rfl
theorem places_data : (Rows.laid_math_bits_deBruijn64tab : DataW Unit) = Go.Lib.tabData .u8 places := by kernel_rfl

theorem tab_lt {W : World} {nm : String} {k : IntKind} {tab : List Int} (hv : Go.Lib.TabIs Tryz.prog W nm k tab) {n : Nat} (hn : Tryz.prog.globalNamed nm = some n) : n < W.heap.size := by
  unfold Go.Lib.TabIs World.var? at hv
  rw [hn] at hv
  simp only [Option.bind_some] at hv
  rcases Nat.lt_or_ge n W.heap.size with h2 | h2
  · exact h2
  · rw [Array.getElem?_eq_none h2] at hv
    cases hv

theorem star : "*" ++ "errors.errorString" = "*errors.errorString" := by decide
theorem row_err (u : TypeId) (h : Tryz.prog.typeName? 3 u = some "*errors.errorString") : u = 136 :=
  typeName_ptr_named (nm := "errors.errorString") (by rw [star]; kernel_rfl) (by kernel_rfl) (by decide) u (by rw [star]; exact h)

theorem err_of {W : World} {n : String} {text : List UInt8} {g : Nat} (h : laidMet Tryz.prog [(n, .iface "*errors.errorString" (.ptr (.agg [.lit (.string text)])))] W) (hg : Tryz.prog.globalNamed n = some g) (ht : (Tryz.prog.globals[g]?).map (·.type) = some 80) : ∃ ev, W.cell? ⟨g, 0, none⟩ = some ev ∧ (ev = .nilIface ∨ ∃ te pe, ev = .iface te pe) := by
  obtain ⟨a, s, hv, _⟩ := laid_sentinel h hg ht Tryz.underlying80 row_err Tryz.underlying136 Tryz.underlying138 rfl rfl Tryz.underlying9 (by kernel_rfl) (by kernel_rfl)
  exact ⟨_, by simpa using World.var?_cell hg hv 0, .inr ⟨_, _, rfl⟩⟩

/-- What the row lays is what the engine knows. -/
theorem iv_of_laid {W : World} (h : laidMetH Tryz.prog laid3 W) : IvOK W := by
  rw [MakeChecks.laidMetH_plain _ _ _ (by kernel_rfl)] at h
  have h1 := laidMet.filter (fun x => x.1 == "internal/strconv.uint64pow10") h
  have e : laid3.filter (fun x => x.1 == "internal/strconv.uint64pow10") = [("internal/strconv.uint64pow10", Go.Lib.tabData .u64 Go.Lib.pow10Tab)] := by
    rw [← pow_data]
    rfl
  rw [e] at h1
  have ht : Go.Lib.TabIs Tryz.prog W "internal/strconv.uint64pow10" .u64 Go.Lib.pow10Tab :=
    Go.Lib.tabIs_of_head (g := 1) (t := 120) (e := 51) (n := 20) (by kernel_rfl) (by kernel_rfl) Tryz.underlying120 Tryz.underlying51 (by kernel_rfl) (by kernel_rfl) h1
  have h2 := laidMet.filter (fun x => x.1 == "math/bits.deBruijn64tab") h
  have e2 : laid3.filter (fun x => x.1 == "math/bits.deBruijn64tab") = [("math/bits.deBruijn64tab", Go.Lib.tabData .u8 places)] := by
    rw [← places_data]
    rfl
  rw [e2] at h2
  have ht2 : Go.Lib.TabIs Tryz.prog W "math/bits.deBruijn64tab" .u8 places :=
    Go.Lib.tabIs_of_head (g := 6) (t := 140) (e := 5) (n := 64) (by kernel_rfl) (by kernel_rfl) Tryz.underlying140 Tryz.underlying5 (by kernel_rfl) (by kernel_rfl) h2
  have h3 := laidMet.filter (fun x => x.1 == "strconv.ErrSyntax") h
  have h4 := laidMet.filter (fun x => x.1 == "strconv.ErrRange") h
  have k3 := err_of (n := "strconv.ErrSyntax") (g := 2) h3 (by kernel_rfl) (by kernel_rfl)
  have k4 := err_of (n := "strconv.ErrRange") (g := 3) h4 (by kernel_rfl) (by kernel_rfl)
  refine ⟨⟨ht, ht2, k3, k4⟩, fun n hn => ?_⟩
  rcases hn with hn | hn | hn | hn
  · exact tab_lt ht hn
  · exact tab_lt ht2 hn
  · obtain ⟨ev, he, _⟩ := k3
    rw [hn]
    exact World.block_lt_of_cell? _ _ he
  · obtain ⟨ev, he, _⟩ := k4
    rw [hn]
    exact World.block_lt_of_cell? _ _ he

set_option maxRecDepth 100000 in
theorem f3_lifted (os : Os) (started : os.Started) (H : Type) (enc : TypeId × Value → H) :
    ReturnsInHanded {} Tryz.checked os 3 .any (fun w args => (Rows.fnVectorsSpec.pre enc Tryz.prog Tryz.f3 [] false w args ∧ laidMetH Tryz.prog laid3 w) ∧ sizedMet enc Tryz.prog Tryz.f3 (OpenSpec.ofChange Rows.fnVectorsSpec) false w args)
      (Rows.fnVectorsSpec.post enc Tryz.prog Tryz.f3 false true false false) := by
  refine returnsInHanded_of_change_and (C := Tryz.checked) (X := fun w _ => laidMetH Tryz.prog laid3 w) (fun _ _ _ hh h => h.of_heap hh) Tryz.own started (by kernel_rfl) Tryz.func3
    (ChangeSpec.witness_shaped (enc := enc) (C := Tryz.checked) (os := os) (X := fun w _ => laidMetH Tryz.prog laid3 w) false (World.laidAll Tryz.prog os laid3) #[.slice none 0 0, .slice none 0 0] 8 (World.laidAll_os _ _ _)
      (World.shaped_of_ZipB (by kernel_rfl) (by kernel_rfl)) (by kernel_rfl) (by kernel_rfl) (by kernel_rfl)
      (by rw [MakeChecks.laidMetH_plain _ _ _ (by kernel_rfl)]; exact laidMet_laidAll _ (by kernel_rfl) (by kernel_rfl))) ?_
  intro W base args ds gs before hval0 hW _ _ hL _
  have hval : ∀ (j : Nat) t v, Tryz.f3.params[j]? = some t → args[j]? = some v → Value.okWide Tryz.prog W .any base t v := hval0
  have hW' := hW
  obtain ⟨p, q, hA0, hV, hpq, hfz, hnd⟩ := hW
  have hA : DataW.TrodAll enc Tryz.prog W 0 (fun _ => true) true Tryz.f3.params.toList args.toList ds p := hA0
  rw [Tryz.params3] at hA hval
  obtain ⟨v0, v1, d0, d1, p0, p1, hargs, rfl, hp, h0, h1⟩ := trods2 hA
  subst hargs
  obtain ⟨x0, n0, f0, s0⟩ := open_row (c := (.int .u8)) (n := 4) (ar := #[v0, v1]) (i := 0) rfl Tryz.underlying22 (by kernel_rfl) (by kernel_rfl) (okWide_slice Tryz.underlying22 (hval 0 22 v0 rfl rfl)) h0 rfl
  obtain ⟨x1, n1, f1, s1⟩ := open_row (c := (.int .u8)) (n := 4) (ar := #[v0, v1]) (i := 1) rfl Tryz.underlying22 (by kernel_rfl) (by kernel_rfl) (okWide_slice Tryz.underlying22 (hval 1 22 v1 rfl rfl)) h1 rfl
  obtain ⟨hn, hl⟩ := plain3 x0 n0 f0 x1 n1 f1
  have hF : laws_FnVectors_c.fn [.vslc 1 (.int .u8) x0, .vslc 2 (.int .u8) x1] = some ⟨.bool true, []⟩ := by
    show (DT.need (laws_FnVectors_need _ _) (.leaf (laws_FnVectors_mk (laws_FnVectors _ _)))).get = _
    rw [hn, hl]
    rfl
  refine (calls_of_fun (x := bodyOf Tryz.f3) Tryz.func3 (by kernel_rfl) (by kernel_rfl) (laws_FnVectors_ok W _ #[v0, v1] _ (iv_of_laid hL) hF (by
    simp only [VSims]
    exact ⟨s0, s1, trivial⟩))).mono fun e W' ⟨v, he, hR⟩ => ?_
  subst he
  have hv : v = .bool true := by
    obtain ⟨pr, φ, hv, _⟩ := hR
    simpa only [VSim] using hv
  subst hv
  exact ⟨_, rfl, post_law (tb := 4) Tryz.laidOut hW' rfl (by kernel_rfl) Tryz.underlying4 (by kernel_rfl) ⟨rfl, rfl, rfl⟩ hR⟩

theorem f3_row : Rows.FnVectorsSaid :=
  OpenClaim.holds_of_wide 3 Tryz.f3 rfl rfl rfl rfl rfl rfl rfl ⟨rfl, rfl, rfl, rfl, rfl⟩ rfl rfl rfl rfl rfl (by kernel_rfl) Tryz.func3 f3_closed
    (of_decide_eq_true (by kernel_rfl)) (by unfold Func.isWrapper; first | (rw [if_pos (by decide +kernel)]; kernel_rfl) | (rw [if_neg (by decide +kernel)]; exact ⟨rfl, rfl⟩))
    (fun os started H enc _ => f3_lifted os started H enc)

set_option maxRecDepth 100000 in
theorem f3_holds : Rows.FnVectorsCardSaid :=
  Claim7.holds_tied_plain_at .later [] [.data, .data, .data, .data, .sentinel, .sentinel, .pinned] true (true, "c2ce2213980f4efa791dafeb2276a2af3590a27a3c3d3d213a4c6be07c3b438b") true
    f3_row (fun _ h => by cases h) (by kernel_rfl) (fun _ h => by cases h) fnVectors_row_tie rfl ⟨rfl, rfl⟩ (by kernel_rfl) rfl
    (fun f fn hf hfn => by
      obtain rfl : f = 3 := Option.some.inj ((show Tryz.prog.funcNamed "loop.example/g01284/laws.FnVectors" = some 3 by kernel_rfl).symm.trans hf) |>.symm
      obtain rfl : fn = Tryz.f3 := (Option.some.inj (Tryz.func3.symm.trans hfn)).symm
      exact ⟨by kernel_rfl, fun j t ht => by
        rw [Tryz.params3] at ht
        have hm : t ∈ [22, 22] := by simpa using Array.mem_of_getElem? ht
        have hall : ([22, 22].all fun u => !Tryz.prog.wantsStandIn u) = true := by kernel_rfl
        exact (show Tryz.prog.wantsStandIn t = false by simpa using List.all_eq_true.1 hall t hm)⟩)
    (by kernel_rfl)

end Go.Proofs.YtacelaaifaffpaaGreatDoor
