/- Two new desks compared, walked. -/
import Derived.Test.YtacelaaifaffpaaD4
namespace Go.Proofs.Ytacelaaifaffpaa
open Go.RowKit Go.Extern
set_option linter.unusedVariables false
set_option linter.unusedSimpArgs false

theorem canon_half64 : canon .f64 4602678819172646912 = 4602678819172646912 := by decide +kernel
set_option maxRecDepth 100000 in
theorem same_calls (w : World) (hiv : IvOK w) :
    Calls Try.prog 15 #[.float .f64 4602678819172646912, .float .f64 4602678819172646912] w fun e w' => e = .returned (.bool true) ∧ Below w.heap.size w w' := by
  have hF : laws_sameFloat_c.fn [.flt .f64 4602678819172646912, .flt .f64 4602678819172646912] = some ⟨.bool true, []⟩ := by
    show (DT.leaf (laws_sameFloat_mk (laws_sameFloat _ _))).get = _
    rw [sameFloat_self]
    rfl
  refine (calls_of_fun (x := bodyOf Try.f15) Try.func15 (by kernel_rfl) (by kernel_rfl) (laws_sameFloat_ok w _ #[.float .f64 4602678819172646912, .float .f64 4602678819172646912] _ hiv hF (by
    simp only [VSims, VSim]
    exact ⟨⟨_, rfl, canon_half64⟩, ⟨_, rfl, canon_half64⟩, trivial⟩))).mono fun e w' ⟨v, he, hR⟩ => ?_
  have hb := below_of_ret hR
  obtain ⟨pr, φ, hv, _⟩ := hR
  simp only [VSim] at hv
  subst hv
  exact ⟨he, hb⟩

theorem conv_half (W : World) : (convert 23 46 (.float .f32 1056964608)).run Try.prog W = .ok (.float .f64 4602678819172646912) W := by
  have h1 : Try.prog.underlying 23 = some (.float .f32) := by kernel_rfl
  have h2 : Try.prog.underlying 46 = some (.float .f64) := by kernel_rfl
  simp only [convert, Sem.run_bind, run_underlying h1, run_underlying h2, Result.andThen_ok]
  rfl

/-- The cells of a new desk. -/
def cellsD (x en : Value) : Array Value := #[x, .float .f32 1065353216, .float .f32 1056964608, .float .f32 0, .float .f32 0, .float .f32 1065353216, .float .f32 0, .float .f32 0, .float .f32 0, .float .f32 0, .float .f32 0, .float .f32 1056964608, .complex .f32 0 1073741824, .complex .f32 0 0, en]

set_option maxHeartbeats 4000000 in
set_option maxRecDepth 100000 in
theorem eqDesk_w (B g g' n m n' m' : Nat) (a a' : Option Addr) (w : World) (hiv : IvOK w)
    (hx : Held B g w (.slice (some ⟨g, 0, none⟩) n m) LB) (hy : Held B g' w (.slice (some ⟨g', 0, none⟩) n' m') LB) :
    Calls Try.prog 6 #[deskV (.slice (some ⟨g, 0, none⟩) n m) (.slice a 0 0), deskV (.slice (some ⟨g', 0, none⟩) n' m') (.slice a' 0 0)] w fun e w' => e = .returned (.bool true) ∧ Below w.heap.size w w' := by
  have b1 : Below w.heap.size w ((w.alloc (.cells (cellsD (.slice (some ⟨g, 0, none⟩) n m) (.slice a 0 0)) 33)).alloc (.cells (cellsD (.slice (some ⟨g', 0, none⟩) n' m') (.slice a' 0 0)) 33)) := ((Below.refl _ w).alloc (Nat.le_refl _) _).alloc (by simp) _
  have c1 := eqB_calls (.slice (some ⟨g, 0, none⟩) n m) (.slice (some ⟨g', 0, none⟩) n' m') _ (hiv.below b1) (hx.below b1).view (hy.below b1).view
  unfold cellsD at c1 b1
  have B1 := Lib.hid b1
  have HV := Lib.hid hiv
  have HX := Lib.hid hx
  have HY := Lib.hid hy
  clear b1 hiv hx hy
  have hcv := conv_half
  unfold deskV
  go_enter Try.func6, Try.ntmps6
  go_wp2_with fail
  refine c1.mono ?_
  rintro e W1 ⟨rfl, hb1⟩
  have HI1 := Lib.hid ((HV.out.below B1.out).below hb1)
  obtain ⟨hc, hf⟩ := bcell hb1
  have HB1 := Lib.hid hb1
  clear c1 hb1
  have c2 := eqBall_calls W1 HI1.out
  have z1 : w.heap.size + 1 < W1.heap.size := by
    have := HB1.out.size
    simp at this
    omega
  have y1 : w.heap.size < W1.heap.size := by omega
  go_wp2_with fail
  refine c2.mono ?_
  rintro e W2 ⟨rfl, hb2⟩
  have HI2 := Lib.hid (HI1.out.below hb2)
  obtain ⟨hc2, hf2⟩ := bcell hb2
  have HB2 := Lib.hid hb2
  clear c2 hb2
  have c3 := eqOrbit_calls W2 HI2.out
  have z2 : w.heap.size + 1 < W2.heap.size := by
    have := HB2.out.size
    omega
  have y2 : w.heap.size < W2.heap.size := by omega
  go_wp2_with fail
  refine c3.mono ?_
  rintro e W3 ⟨rfl, hb3⟩
  have HI3 := Lib.hid (HI2.out.below hb3)
  obtain ⟨hc3, hf3⟩ := bcell hb3
  have HB3 := Lib.hid hb3
  clear c3 hb3
  have c4 := same_calls W3 HI3.out
  have z3 : w.heap.size + 1 < W3.heap.size := by
    have := HB3.out.size
    omega
  have y3 : w.heap.size < W3.heap.size := by omega
  go_wp2_with fail
  refine c4.mono ?_
  rintro e W4 ⟨rfl, hb4⟩
  have HI4 := Lib.hid (HI3.out.below hb4)
  obtain ⟨hc4, hf4⟩ := bcell hb4
  have HB4 := Lib.hid hb4
  clear c4 hb4
  have c5 := eqShip_calls W4 HI4.out
  have z4 : w.heap.size + 1 < W4.heap.size := by
    have := HB4.out.size
    omega
  have y4 : w.heap.size < W4.heap.size := by omega
  go_wp2_with fail
  refine c5.mono ?_
  rintro e W5 ⟨rfl, hb5⟩
  have HI5 := Lib.hid (HI4.out.below hb5)
  obtain ⟨hc5, hf5⟩ := bcell hb5
  have HB5 := Lib.hid hb5
  clear c5 hb5
  have c6 := eqE_calls a a' W5 HI5.out
  have z5 : w.heap.size + 1 < W5.heap.size := by
    have := HB5.out.size
    omega
  have y5 : w.heap.size < W5.heap.size := by omega
  go_wp2_with fail
  refine c6.mono ?_
  rintro e W6 ⟨rfl, hb6⟩
  have HI6 := Lib.hid (HI5.out.below hb6)
  obtain ⟨hc6, hf6⟩ := bcell hb6
  have HB6 := Lib.hid hb6
  clear c6 hb6
  go_wp2
  go_ret
  exact ⟨rfl, B1.out.trans ((HB1.out.mono B1.out.size).trans ((HB2.out.mono (by have := B1.out.size; have := HB1.out.size; omega)).trans ((HB3.out.mono (by omega)).trans ((HB4.out.mono (by omega)).trans ((HB5.out.mono (by omega)).trans (HB6.out.mono (by omega)))))))⟩

end Go.Proofs.Ytacelaaifaffpaa
