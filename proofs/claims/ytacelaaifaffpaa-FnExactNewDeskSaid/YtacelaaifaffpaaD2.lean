/- The calls of a new desk, as its walk asks for them: what the engine's contracts say of worlds. -/
import Derived.Test.YtacelaaifaffpaaD1
import Derived.Test.YtacelaaifaffpaaEngR
import Derived.Lib.Walk
import Derived.Lib.Hide
namespace Go.Proofs.Ytacelaaifaffpaa
open Go.RowKit Go.Extern
set_option linter.unusedVariables false
set_option linter.unusedSimpArgs false

theorem IvOK.below {w w' : World} (h : IvOK w) (hb : Below w.heap.size w w') : IvOK w' :=
  ⟨ivW_closed h.1 fun n hn => hb.block n (h.2 n hn), fun n hn => Nat.lt_of_lt_of_le (h.2 n hn) hb.size⟩

/-- A slice value whose row, a block from B on, holds bodies. -/
def Held (B g : Nat) (w : World) (v : Value) (l : List Body) : Prop :=
  (∃ n m, v = .slice (some ⟨g, 0, none⟩) n m) ∧ B ≤ g ∧ g < w.heap.size ∧ ∃ us, OwnsG w 56 7 v l.length us ∧ All2 SSim (flat .body l) us

theorem Held.keep {B g : Nat} {w w' : World} {v : Value} {l : List Body} (h : Held B g w v l) (hg : w'.heap[g]? = w.heap[g]?) (hs : w.heap.size ≤ w'.heap.size) : Held B g w' v l := by
  obtain ⟨⟨n, m, rfl⟩, hB, hlt, us, ho, hS⟩ := h
  refine ⟨⟨n, m, rfl⟩, hB, Nat.lt_of_lt_of_le hlt hs, us, ownsRow_heap ho (fun b hb => ?_), hS⟩
  simp only [blkOf, Option.some.injEq] at hb
  subst hb
  exact hg

theorem Held.below {B g : Nat} {w w' : World} {v : Value} {l : List Body} (h : Held B g w v l) (hb : Below w.heap.size w w') : Held B g w' v l :=
  h.keep (hb.block g h.2.2.1) hb.size

theorem Held.view {B g : Nat} {w : World} {v : Value} {l : List Body} (h : Held B g w v l) (vs : Array Value) : VSim (argCx w vs) (.vslc 0 .body l) v := by
  obtain ⟨⟨n, m, rfl⟩, hB, hlt, us, ho, hS⟩ := h
  obtain ⟨cap, cur, hv, _, hn, _, _, hc⟩ := ownsRow_cells ho (b := g) rfl
  cases hv
  simp only [VSim]
  exact ⟨fun i e => (by cases e), _, _, rfl, hn, fun _ => ⟨g, 0, rfl, hlt, us, hc, hS⟩⟩

theorem two_of {c : Cx} {p q : PV} : ∀ {us : Array Value}, VSims c [p, q] us.toList → ∃ x y, us = #[x, y] ∧ VSim c p x ∧ VSim c q y
  | ⟨[]⟩, h => by simp [VSims] at h
  | ⟨[_]⟩, h => by simp [VSims] at h
  | ⟨[x, y]⟩, h => by simp only [VSims] at h; exact ⟨x, y, rfl, h.1, h.2.1⟩
  | ⟨_ :: _ :: _ :: _⟩, h => by simp [VSims] at h

theorem held_of {w w' : World} {vs : Array Value} {l : List Body} {v : Value} (hl : l ≠ []) (hR : RetSim w w' vs ⟨.tup [.own 0, .bool true], [.typed 56 .body l]⟩ v) : ∃ g n m, v = .tuple #[.slice (some ⟨g, 0, none⟩) n m, .bool true] ∧ Held w.heap.size g w' (.slice (some ⟨g, 0, none⟩) n m) l ∧ Below w.heap.size w w' := by
  have hb := below_of_ret hR
  obtain ⟨pr, φ, hv, hh⟩ := hR
  simp only [VSim] at hv
  obtain ⟨us, rfl, hvs⟩ := hv
  obtain ⟨x, y, rfl, hx, hy⟩ := two_of hvs
  simp only [VSim] at hx hy
  obtain ⟨_, hx, _⟩ := hx
  subst hy
  obtain ⟨_, hbs⟩ := hh.blk 0 (.typed 56 .body l) rfl
  obtain ⟨cs, ho, hS⟩ := hbs
  have ho : OwnsG w' 56 7 (φ 0) l.length cs := ho
  have hx : x = φ 0 := hx
  rw [← hx] at ho
  rcases ho.2 with ⟨_, hn⟩ | ⟨g, cap, cur, fz, hv, hg, _⟩
  · exact absurd (List.eq_nil_of_length_eq_zero hn) hl
  · have hlo := (hh.lo 0 _ g rfl (by show blkOf (φ 0) = some g; rw [← hx, hv]; rfl)).1
    have hlo : w.heap.size ≤ g := by rcases hlo with h | h; exact h; exact h.elim
    subst hv
    exact ⟨g, _, _, rfl, ⟨⟨_, _, rfl⟩, hlo, (Array.getElem?_eq_some_iff.1 hg).1, cs, ho, hS⟩, hb⟩

theorem canon_half : canon .f32 1056964608 = 1056964608 := by decide +kernel
theorem canon_one : canon .f32 1065353216 = 1065353216 := by decide +kernel
theorem canon_two : canon .f32 1073741824 = 1073741824 := by decide +kernel

set_option maxRecDepth 100000 in
theorem circle_spec_calls (w : World) (hiv : IvOK w) :
    Calls Try.prog 9 #[.float .f32 1056964608, .float .f32 1056964608, .float .f32 1065353216] w fun e w' => ∃ g n m, e = .returned (.tuple #[.slice (some ⟨g, 0, none⟩) n m, .bool true]) ∧ Held w.heap.size g w' (.slice (some ⟨g, 0, none⟩) n m) LB ∧ Below w.heap.size w w' := by
  have hF : spec_CircleBodies_c.fn [.flt .f32 1056964608, .flt .f32 1056964608, .flt .f32 1065353216] = some ⟨.tup [.own 0, .bool true], [.typed 56 .body LB]⟩ := by
    show (DT.need (spec_CircleBodies_need _ _ _) (spec_CircleBodies_forms (spec_CircleBodies _ _ _))).get = _
    rw [circle_spec.1, circle_spec.2]
    rfl
  refine (calls_of_fun (x := bodyOf Try.f9) Try.func9 (by kernel_rfl) (by kernel_rfl) (spec_CircleBodies_ok w _ #[.float .f32 1056964608, .float .f32 1056964608, .float .f32 1065353216] _ hiv hF (by
    simp only [VSims, VSim]
    exact ⟨⟨_, rfl, canon_half⟩, ⟨_, rfl, canon_half⟩, ⟨_, rfl, canon_one⟩, trivial⟩))).mono fun e w' ⟨v, he, hR⟩ => ?_
  obtain ⟨g, n, m, rfl, h1, h2⟩ := held_of (by unfold LB; simp) hR
  exact ⟨g, n, m, he, h1, h2⟩

set_option maxRecDepth 100000 in
theorem circle_impl_calls (w : World) (hiv : IvOK w) :
    Calls Try.prog 11 #[.float .f32 1056964608, .float .f32 1056964608, .float .f32 1065353216] w fun e w' => ∃ g n m, e = .returned (.tuple #[.slice (some ⟨g, 0, none⟩) n m, .bool true]) ∧ Held w.heap.size g w' (.slice (some ⟨g, 0, none⟩) n m) LB ∧ Below w.heap.size w w' := by
  have hF : impl_CircleBodies_c.fn [.flt .f32 1056964608, .flt .f32 1056964608, .flt .f32 1065353216] = some ⟨.tup [.own 0, .bool true], [.typed 56 .body LB]⟩ := by
    show (DT.need (impl_CircleBodies_need _ _ _) (impl_CircleBodies_forms (impl_CircleBodies _ _ _))).get = _
    rw [circle_impl.1, circle_impl.2]
    rfl
  refine (calls_of_fun (x := bodyOf Try.f11) Try.func11 (by kernel_rfl) (by kernel_rfl) (impl_CircleBodies_ok w _ #[.float .f32 1056964608, .float .f32 1056964608, .float .f32 1065353216] _ hiv hF (by
    simp only [VSims, VSim]
    exact ⟨⟨_, rfl, canon_half⟩, ⟨_, rfl, canon_half⟩, ⟨_, rfl, canon_one⟩, trivial⟩))).mono fun e w' ⟨v, he, hR⟩ => ?_
  obtain ⟨g, n, m, rfl, h1, h2⟩ := held_of (by unfold LB; simp) hR
  exact ⟨g, n, m, he, h1, h2⟩

/-- Bits whose canonical form is a number's are these bits. -/
theorem canon_bits {k : FloatKind} {b x : Nat} (h : canon k b = x) (hx : isNaN k x = false) : b = x := by
  unfold canon at h
  cases hn : isNaN k b with
  | false => rw [hn] at h; exact h
  | true =>
    rw [hn] at h
    have h : qnan k = x := h
    rw [← h] at hx
    cases k <;> exact absurd hx (by decide +kernel)

/-- A new desk's value. -/
def deskV (x en : Value) : Value := .agg #[x, .float .f32 1065353216, .float .f32 1056964608, .float .f32 0, .float .f32 0, .float .f32 1065353216, .float .f32 0, .float .f32 0, .float .f32 0, .float .f32 0, .float .f32 0, .float .f32 1056964608, .complex .f32 0 1073741824, .complex .f32 0 0, en]

theorem bcell {W w1 : World} (hb : Below W.heap.size W w1) : (∀ b o, b < W.heap.size → w1.cell? ⟨b, o, none⟩ = W.cell? ⟨b, o, none⟩) ∧ (∀ b o, b < W.heap.size → w1.frozen? ⟨b, o, none⟩ = W.frozen? ⟨b, o, none⟩) :=
  ⟨fun b o h => hb.cell (p := ⟨b, o, none⟩) h, fun b o h => hb.frozen (p := ⟨b, o, none⟩) h⟩

/-- The cells of a desk that is made. -/
def zeroD : Array Value := #[.slice none 0 0, .float .f32 0, .float .f32 0, .float .f32 0, .float .f32 0, .float .f32 0, .float .f32 0, .float .f32 0, .float .f32 0, .float .f32 0, .float .f32 0, .float .f32 0, .complex .f32 0 0, .complex .f32 0 0, .slice none 0 0]

theorem Held.mono {B B' g : Nat} {w : World} {v : Value} {l : List Body} (h : Held B g w v l) (hB : B' ≤ B) : Held B' g w v l := ⟨h.1, Nat.le_trans hB h.2.1, h.2.2⟩
theorem setRow_size (w : World) (b : Nat) (cs : Array Value) : (w.setRow b cs).heap.size = w.heap.size := by
  unfold World.setRow
  simp
theorem below_row {B b : Nat} {w w' : World} (h : Below B w w') (hb : B ≤ b) (cs : Array Value) : Below B w (w'.setRow b cs) := by
  refine ⟨?_, ?_, ?_, by rw [setRow_size]; exact h.size, fun k hk => (setRow_other _ _ _ _ (by omega)).trans (h.block k hk)⟩
  · exact h.os
  · exact h.tape
  · exact h.output

theorem store_row {P : Program} {W : World} {b off : Nat} {c0 cur : Array Value} {T : TypeId} (hW : W.heap[b]? = some (.cells c0 T (0, 0))) (v : Value) (ho : off < cur.size) (h1 : v.oneCell' = true) :
    (store ⟨b, off, none⟩ v).run P (W.setRow b cur) = .ok () (W.setRow b (cur.setIfInBounds off v)) := by
  have hR := setRow_heap W b c0 cur T (0, 0) hW
  have hcell : (W.setRow b cur).cell? ⟨b, off, none⟩ = some cur[off] := by simp [World.cell?, hR, ho]
  have hfro : (W.setRow b cur).frozen? ⟨b, off, none⟩ = false := by simp [World.frozen?, hR]
  rw [run_store P _ _ v _ h1, hcell]
  simp [hfro, setCell_eq_setRow _ b off cur T (0, 0) v hR, setRow_setRow]

theorem cell_row {W : World} {b off : Nat} {c0 cur : Array Value} {T : TypeId} (hW : W.heap[b]? = some (.cells c0 T (0, 0))) : (W.setRow b cur).cell? ⟨b, off, none⟩ = cur[off]? := by
  have hR := setRow_heap W b c0 cur T (0, 0) hW
  simp [World.cell?, hR]
theorem frozen_row {W : World} {b off : Nat} {c0 cur : Array Value} {T : TypeId} (hW : W.heap[b]? = some (.cells c0 T (0, 0))) : (W.setRow b cur).frozen? ⟨b, off, none⟩ = false := by
  have hR := setRow_heap W b c0 cur T (0, 0) hW
  simp [World.frozen?, hR]

set_option maxHeartbeats 2000000 in
set_option maxRecDepth 100000 in
theorem desk_impl_w (w : World) (hiv : IvOK w) :
    Calls Try.prog 5 #[] w fun e w' => ∃ g n m, e = .returned (deskV (.slice (some ⟨g, 0, none⟩) n m) (.slice none 0 0)) ∧ Held w.heap.size g w' (.slice (some ⟨g, 0, none⟩) n m) LB ∧ Below w.heap.size w w' := by
  have HV := Lib.hid hiv
  clear hiv
  have b0 : Below w.heap.size w (w.alloc (.cells zeroD 33)) := (Below.refl _ w).alloc (Nat.le_refl _) _
  have hC := circle_impl_calls _ (HV.out.below b0)
  have B0 := Lib.hid b0
  unfold zeroD at hC B0
  clear b0
  go_enter Try.func5, Try.ntmps5
  go_wp2_with fail
  refine hC.mono ?_
  rintro e W1 ⟨g, n, m, rfl, hH, hb1⟩
  obtain ⟨hc, hf⟩ := bcell hb1
  have HH := Lib.hid hH
  have HB := Lib.hid hb1
  have hW1 : W1.heap[w.heap.size]? = some (.cells zeroD 33 (0, 0)) := (hb1.block w.heap.size (by simp)).trans (heap_alloc_new w _)
  have HW1 := Lib.hid hW1
  clear hC hH hb1 hW1
  go_wp2_with fail
  clear hc hf
  rw [setCell_eq_setRow _ _ _ _ _ _ _ HW1.out]
  repeat (rw [store_row HW1.out _ (by simp [zeroD]) rfl]; simp only [Result.andThen_ok])
  rw [setCell_eq_setRow _ _ _ _ _ _ _ (setRow_heap _ _ _ _ _ _ HW1.out), setRow_setRow]
  simp [cell_row HW1.out, frozen_row HW1.out, zeroD]
  go_wp2
  have hsz : (w.alloc (.cells zeroD 33)).heap.size = w.heap.size + 1 := by simp
  have hH := HH.out
  have hg := hH.2.1
  refine bodyPost_ret (v := deskV (.slice (some ⟨g, 0, none⟩) n m) (.slice none 0 0)) (by simp [results, Try.results5, go_sem, cell_row HW1.out, deskV]) rfl ⟨g, n, m, rfl, ?_, ?_⟩
  · exact (hH.mono (Nat.le_trans (Nat.le_succ _) (Nat.le_of_eq hsz.symm))).keep (setRow_other _ _ _ _ (by
      have : w.heap.size + 1 ≤ g := Nat.le_trans (Nat.le_of_eq hsz.symm) hg
      omega)) (Nat.le_of_eq (setRow_size _ _ _).symm)
  · exact below_row (B0.out.trans (HB.out.mono (Nat.le_trans (Nat.le_succ _) (Nat.le_of_eq hsz.symm)))) (Nat.le_refl _) _

end Go.Proofs.Ytacelaaifaffpaa
