/- The comparisons and marks of new desks, as the walk asks for them. -/
import Derived.Test.YtacelaaifaffpaaD3
namespace Go.Proofs.Ytacelaaifaffpaa
open Go.RowKit Go.Extern
set_option linter.unusedVariables false
set_option linter.unusedSimpArgs false

theorem eqE_nil : laws_eqEntryS_need [] [] = true ∧ laws_eqEntryS [] [] = true := by
  obtain ⟨h1, h2⟩ := scan_loop (α := Unit) (β := Unit) (step := laws_eqEntryS_loop0_step ([], [])) 0 (fun _ => none) () (fun i hi => absurd hi (Nat.not_lt_zero i)) ⟨[], rfl⟩
  have h1 : laws_eqEntryS_loop0_ends ([], []) 0 = true := h1
  have h2 : laws_eqEntryS_loop0 ([], []) 0 = .inr () := h2
  unfold laws_eqEntryS_need laws_eqEntryS laws_eqEntryS_tree
  have d : (((List.length ([] : List Entry) : Nat) : Int) != ((List.length ([] : List Entry) : Nat) : Int)) = false := rfl
  simp only [DT.ok, DT.val, d, h1, h2, isL]
  exact ⟨trivial, trivial⟩

theorem nil_view (w : World) (vs : Array Value) (a : Option Addr) : VSim (argCx w vs) (.vslc 0 .entry []) (.slice a 0 0) := by
  simp only [VSim]
  exact ⟨fun i e => (by cases e), a, 0, rfl, Nat.le_refl _, fun h => absurd rfl h⟩

theorem tag_view {w : World} {vs : Array Value} {u : UC} {l : List u.T} {x : Value} (h : VSim (argCx w vs) (.vslc 0 u l) x) (i : Nat) (hi : vs[i]? = some x) : VSim (argCx w vs) (.vslc (i + 1) u l) x := by
  simp only [VSim] at h ⊢
  refine ⟨fun j e => ?_, h.2⟩
  have : j = i := by omega
  subst this
  exact hi

set_option maxRecDepth 100000 in
theorem eqB_calls (x y : Value) (w : World) (hiv : IvOK w) (hx : ∀ vs, VSim (argCx w vs) (.vslc 0 .body LB) x) (hy : ∀ vs, VSim (argCx w vs) (.vslc 0 .body LB) y) :
    Calls Try.prog 12 #[x, y] w fun e w' => e = .returned (.bool true) ∧ Below w.heap.size w w' := by
  have hF : laws_eqBodyS_c0.fn [.vslc 1 .body LB, .vslc 2 .body LB] = some ⟨.bool true, []⟩ := by
    show (DT.need (laws_eqBodyS_need LB LB) (.leaf (laws_eqBodyS_mk (laws_eqBodyS LB LB)))).get = _
    rw [(eqBodyS_self LB (by decide)).1, (eqBodyS_self LB (by decide)).2]
    rfl
  refine (calls_of_fun (x := bodyOf Try.f12) Try.func12 (by kernel_rfl) (by kernel_rfl) (laws_eqBodyS_ok0 w _ #[x, y] _ hiv hF (by
    simp only [VSims]
    exact ⟨tag_view (hx _) 0 rfl, tag_view (hy _) 1 rfl, trivial⟩))).mono fun e w' ⟨v, he, hR⟩ => ?_
  have hb := below_of_ret hR
  obtain ⟨pr, φ, hv, _⟩ := hR
  simp only [VSim] at hv
  subst hv
  exact ⟨he, hb⟩

set_option maxRecDepth 100000 in
theorem eqE_calls (a b : Option Addr) (w : World) (hiv : IvOK w) :
    Calls Try.prog 17 #[.slice a 0 0, .slice b 0 0] w fun e w' => e = .returned (.bool true) ∧ Below w.heap.size w w' := by
  have hF : laws_eqEntryS_c0.fn [.vslc 1 .entry [], .vslc 2 .entry []] = some ⟨.bool true, []⟩ := by
    show (DT.need (laws_eqEntryS_need [] []) (.leaf (laws_eqEntryS_mk (laws_eqEntryS [] [])))).get = _
    rw [eqE_nil.1, eqE_nil.2]
    rfl
  refine (calls_of_fun (x := bodyOf Try.f17) Try.func17 (by kernel_rfl) (by kernel_rfl) (laws_eqEntryS_ok0 w _ #[.slice a 0 0, .slice b 0 0] _ hiv hF (by
    simp only [VSims]
    exact ⟨tag_view (nil_view _ _ _) 0 rfl, tag_view (nil_view _ _ _) 1 rfl, trivial⟩))).mono fun e w' ⟨v, he, hR⟩ => ?_
  have hb := below_of_ret hR
  obtain ⟨pr, φ, hv, _⟩ := hR
  simp only [VSim] at hv
  subst hv
  exact ⟨he, hb⟩

set_option maxRecDepth 100000 in
theorem eqBall_calls  (w : World) (hiv : IvOK w) :
    Calls Try.prog 13 #[.agg #[.float .f32 1065353216, .float .f32 1056964608, .float .f32 0, .float .f32 0], .agg #[.float .f32 1065353216, .float .f32 1056964608, .float .f32 0, .float .f32 0]] w fun e w' => e = .returned (.bool true) ∧ Below w.heap.size w w' := by
  have hF : laws_eqBall_c.fn [.agg [.flt .f32 1065353216, .flt .f32 1056964608, .flt .f32 0, .flt .f32 0], .agg [.flt .f32 1065353216, .flt .f32 1056964608, .flt .f32 0, .flt .f32 0]] = some ⟨.bool true, []⟩ := by
    show (DT.need (laws_eqBall_need (⟨1065353216, 1056964608, 0, 0⟩ : Ball) (⟨1065353216, 1056964608, 0, 0⟩ : Ball)) (.leaf (laws_eqBall_mk (laws_eqBall (⟨1065353216, 1056964608, 0, 0⟩ : Ball) (⟨1065353216, 1056964608, 0, 0⟩ : Ball))))).get = _
    rw [(eqBall_self _).1, (eqBall_self _).2]
    rfl
  refine (calls_of_fun (x := bodyOf Try.f13) Try.func13 (by kernel_rfl) (by kernel_rfl) (laws_eqBall_ok w _ #[.agg #[.float .f32 1065353216, .float .f32 1056964608, .float .f32 0, .float .f32 0], .agg #[.float .f32 1065353216, .float .f32 1056964608, .float .f32 0, .float .f32 0]] _ hiv hF (by
    simp only [VSims]
    exact ⟨by simp only [VSim, VSims]; exact ⟨_, rfl, ⟨⟨_, rfl, canon_one⟩, ⟨_, rfl, canon_half⟩, ⟨_, rfl, canon_zero .f32⟩, ⟨_, rfl, canon_zero .f32⟩, trivial⟩⟩, by simp only [VSim, VSims]; exact ⟨_, rfl, ⟨⟨_, rfl, canon_one⟩, ⟨_, rfl, canon_half⟩, ⟨_, rfl, canon_zero .f32⟩, ⟨_, rfl, canon_zero .f32⟩, trivial⟩⟩, trivial⟩))).mono fun e w' ⟨v, he, hR⟩ => ?_
  have hb := below_of_ret hR
  obtain ⟨pr, φ, hv, _⟩ := hR
  simp only [VSim] at hv
  subst hv
  exact ⟨he, hb⟩

set_option maxRecDepth 100000 in
theorem eqOrbit_calls  (w : World) (hiv : IvOK w) :
    Calls Try.prog 14 #[.agg #[.float .f32 1065353216, .float .f32 0, .float .f32 0, .float .f32 0, .float .f32 0, .float .f32 0], .agg #[.float .f32 1065353216, .float .f32 0, .float .f32 0, .float .f32 0, .float .f32 0, .float .f32 0]] w fun e w' => e = .returned (.bool true) ∧ Below w.heap.size w w' := by
  have hF : laws_eqOrbit_c.fn [.agg [.flt .f32 1065353216, .flt .f32 0, .flt .f32 0, .flt .f32 0, .flt .f32 0, .flt .f32 0], .agg [.flt .f32 1065353216, .flt .f32 0, .flt .f32 0, .flt .f32 0, .flt .f32 0, .flt .f32 0]] = some ⟨.bool true, []⟩ := by
    show (DT.need (laws_eqOrbit_need (⟨1065353216, 0, 0, 0, 0, 0⟩ : Orbit) (⟨1065353216, 0, 0, 0, 0, 0⟩ : Orbit)) (.leaf (laws_eqOrbit_mk (laws_eqOrbit (⟨1065353216, 0, 0, 0, 0, 0⟩ : Orbit) (⟨1065353216, 0, 0, 0, 0, 0⟩ : Orbit))))).get = _
    rw [(eqOrbit_self _).1, (eqOrbit_self _).2]
    rfl
  refine (calls_of_fun (x := bodyOf Try.f14) Try.func14 (by kernel_rfl) (by kernel_rfl) (laws_eqOrbit_ok w _ #[.agg #[.float .f32 1065353216, .float .f32 0, .float .f32 0, .float .f32 0, .float .f32 0, .float .f32 0], .agg #[.float .f32 1065353216, .float .f32 0, .float .f32 0, .float .f32 0, .float .f32 0, .float .f32 0]] _ hiv hF (by
    simp only [VSims]
    exact ⟨by simp only [VSim, VSims]; exact ⟨_, rfl, ⟨⟨_, rfl, canon_one⟩, ⟨_, rfl, canon_zero .f32⟩, ⟨_, rfl, canon_zero .f32⟩, ⟨_, rfl, canon_zero .f32⟩, ⟨_, rfl, canon_zero .f32⟩, ⟨_, rfl, canon_zero .f32⟩, trivial⟩⟩, by simp only [VSim, VSims]; exact ⟨_, rfl, ⟨⟨_, rfl, canon_one⟩, ⟨_, rfl, canon_zero .f32⟩, ⟨_, rfl, canon_zero .f32⟩, ⟨_, rfl, canon_zero .f32⟩, ⟨_, rfl, canon_zero .f32⟩, ⟨_, rfl, canon_zero .f32⟩, trivial⟩⟩, trivial⟩))).mono fun e w' ⟨v, he, hR⟩ => ?_
  have hb := below_of_ret hR
  obtain ⟨pr, φ, hv, _⟩ := hR
  simp only [VSim] at hv
  subst hv
  exact ⟨he, hb⟩

set_option maxRecDepth 100000 in
theorem eqShip_calls  (w : World) (hiv : IvOK w) :
    Calls Try.prog 16 #[.agg #[.complex .f32 0 1073741824, .complex .f32 0 0], .agg #[.complex .f32 0 1073741824, .complex .f32 0 0]] w fun e w' => e = .returned (.bool true) ∧ Below w.heap.size w w' := by
  have hF : laws_eqShip_c.fn [.agg [.cplx .f32 0 1073741824, .cplx .f32 0 0], .agg [.cplx .f32 0 1073741824, .cplx .f32 0 0]] = some ⟨.bool true, []⟩ := by
    show (DT.need (laws_eqShip_need ((0, 1073741824), (0, 0)) ((0, 1073741824), (0, 0))) (.leaf (laws_eqShip_mk (laws_eqShip ((0, 1073741824), (0, 0)) ((0, 1073741824), (0, 0)))))).get = _
    rw [(eqShip_self _).1, (eqShip_self _).2]
    rfl
  refine (calls_of_fun (x := bodyOf Try.f16) Try.func16 (by kernel_rfl) (by kernel_rfl) (laws_eqShip_ok w _ #[.agg #[.complex .f32 0 1073741824, .complex .f32 0 0], .agg #[.complex .f32 0 1073741824, .complex .f32 0 0]] _ hiv hF (by
    simp only [VSims]
    exact ⟨by simp only [VSim, VSims]; exact ⟨_, rfl, ⟨⟨_, _, rfl, canon_zero .f32, canon_two⟩, ⟨_, _, rfl, canon_zero .f32, canon_zero .f32⟩, trivial⟩⟩, by simp only [VSim, VSims]; exact ⟨_, rfl, ⟨⟨_, _, rfl, canon_zero .f32, canon_two⟩, ⟨_, _, rfl, canon_zero .f32, canon_zero .f32⟩, trivial⟩⟩, trivial⟩))).mono fun e w' ⟨v, he, hR⟩ => ?_
  have hb := below_of_ret hR
  obtain ⟨pr, φ, hv, _⟩ := hR
  simp only [VSim] at hv
  subst hv
  exact ⟨he, hb⟩

end Go.Proofs.Ytacelaaifaffpaa
