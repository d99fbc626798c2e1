/- A new desk marked and held, walked. -/
import Derived.Test.YtacelaaifaffpaaD7
namespace Go.Proofs.Ytacelaaifaffpaa
open Go.RowKit Go.Extern
set_option linter.unusedVariables false
set_option linter.unusedSimpArgs false

theorem ivAny (w : World) : IvOK w := ⟨trivial, fun _ h => h.elim⟩

theorem cell_same {w w' : World} {b : Nat} (h : w'.heap[b]? = w.heap[b]?) : (∀ o, w'.cell? ⟨b, o, none⟩ = w.cell? ⟨b, o, none⟩) ∧ ∀ o, w'.frozen? ⟨b, o, none⟩ = w.frozen? ⟨b, o, none⟩ := by
  refine ⟨fun o => ?_, fun o => ?_⟩
  · unfold World.cell?; simp only [h]
  · unfold World.frozen?; simp only [h]

/-- All blocks but one are as they were. -/
def But (g : Nat) (w w' : World) : Prop := (∀ k, k < w.heap.size → k ≠ g → w'.heap[k]? = w.heap[k]?) ∧ w'.os = w.os ∧ w'.tape = w.tape ∧ w'.output = w.output ∧ w.heap.size ≤ w'.heap.size

theorem But.trans {g : Nat} {a b c : World} (h : But g a b) (k : But g b c) : But g a c := by
  obtain ⟨h1, h2, h3, h4, h5⟩ := h
  obtain ⟨k1, k2, k3, k4, k5⟩ := k
  exact ⟨fun i hi hg => (k1 i (Nat.lt_of_lt_of_le hi h5) hg).trans (h1 i hi hg), k2.trans h2, k3.trans h3, k4.trans h4, Nat.le_trans h5 k5⟩
theorem But.of {g : Nat} {a b : World} (h : Below a.heap.size a b) : But g a b := ⟨fun k hk _ => h.block k hk, h.os, h.tape, h.output, h.size⟩

set_option maxHeartbeats 4000000 in
set_option maxRecDepth 100000 in
theorem markDesk_w (B g n m : Nat) (w : World) (hx : Held B g w (.slice (some ⟨g, 0, none⟩) n m) LB) :
    Calls Try.prog 7 #[deskV (.slice (some ⟨g, 0, none⟩) n m) (.slice none 0 0), .int .i64 1] w fun e w' => e = .returned (.int .i64 15) ∧ Held B g w' (.slice (some ⟨g, 0, none⟩) n m) LM ∧ But g w w' := by
  have b1 : Below w.heap.size w (w.alloc (.cells (cellsD (.slice (some ⟨g, 0, none⟩) n m) (.slice none 0 0)) 33)) := (Below.refl _ w).alloc (Nat.le_refl _) _
  have hg : g < w.heap.size := hx.2.2.1
  have c1 := mark_calls B g n m _ (ivAny _) (hx.below b1)
  unfold cellsD at c1 b1
  have B1 := Lib.hid b1
  have HG := Lib.hid hg
  clear b1 hx hg
  unfold deskV
  go_enter Try.func7, Try.ntmps7
  go_wp2_with fail
  refine c1.mono ?_
  rintro e W1 ⟨rfl, hH, hk, h1, h2, h3, h4⟩
  have hne : w.heap.size ≠ g := Nat.ne_of_gt HG.out
  obtain ⟨hc, hf⟩ := cell_same (hk w.heap.size (by simp) hne)
  have BB := Lib.hid (show But g _ W1 from ⟨hk, h1, h2, h3, h4⟩)
  have HH := Lib.hid hH
  clear c1 hk h1 h2 h3 h4 hH hne
  have c2 := markE_calls 15 W1 (ivAny _)
  have z1 : w.heap.size < W1.heap.size := by
    have := BB.out.2.2.2.2
    simp at this
    omega
  go_wp2_with fail
  refine c2.mono ?_
  rintro e W2 ⟨rfl, hb2⟩
  have HB2 := Lib.hid hb2
  clear c2 hb2
  go_wp2
  go_ret
  exact ⟨rfl, HH.out.below HB2.out, ((But.of B1.out).trans BB.out).trans (But.of HB2.out)⟩

set_option maxHeartbeats 4000000 in
set_option maxRecDepth 100000 in
theorem heldDesk_w (B g n m : Nat) (a : Option Addr) (w : World) (hx : Held B g w (.slice (some ⟨g, 0, none⟩) n m) LM) :
    Calls Try.prog 8 #[deskV (.slice (some ⟨g, 0, none⟩) n m) (.slice a 0 0), .int .i64 1] w fun e w' => e = .returned (.int .i64 15) ∧ Below w.heap.size w w' := by
  have b1 : Below w.heap.size w (w.alloc (.cells (cellsD (.slice (some ⟨g, 0, none⟩) n m) (.slice a 0 0)) 33)) := (Below.refl _ w).alloc (Nat.le_refl _) _
  have c1 := held_calls (.slice (some ⟨g, 0, none⟩) n m) _ (ivAny _) (hx.below b1).view
  unfold cellsD at c1 b1
  have B1 := Lib.hid b1
  clear b1 hx
  unfold deskV
  go_enter Try.func8, Try.ntmps8
  go_wp2_with fail
  refine c1.mono ?_
  rintro e W1 ⟨rfl, hb1⟩
  obtain ⟨hc, hf⟩ := bcell hb1
  have HB1 := Lib.hid hb1
  clear c1 hb1
  have c2 := heldE_calls a 15 W1 (ivAny _)
  have z1 : w.heap.size < W1.heap.size := by
    have := HB1.out.size
    simp at this
    omega
  go_wp2_with fail
  refine c2.mono ?_
  rintro e W2 ⟨rfl, hb2⟩
  have HB2 := Lib.hid hb2
  clear c2 hb2
  go_wp2
  go_ret
  exact ⟨rfl, B1.out.trans ((HB1.out.mono B1.out.size).trans (HB2.out.mono (by have := B1.out.size; have := HB1.out.size; omega)))⟩

end Go.Proofs.Ytacelaaifaffpaa
