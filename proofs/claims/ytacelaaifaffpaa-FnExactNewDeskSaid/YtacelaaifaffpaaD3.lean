/- The reference's new desk, walked. -/
import Derived.Test.YtacelaaifaffpaaD2
namespace Go.Proofs.Ytacelaaifaffpaa
open Go.RowKit Go.Extern
set_option linter.unusedVariables false
set_option linter.unusedSimpArgs false

def orbitV : Value := .agg #[.float .f32 1065353216, .float .f32 0, .float .f32 0, .float .f32 0, .float .f32 0, .float .f32 0]

theorem six_of {c : Cx} {p0 p1 p2 p3 p4 p5 : Nat} (h0 : isNaN .f32 p0 = false) (h1 : isNaN .f32 p1 = false) (h2 : isNaN .f32 p2 = false) (h3 : isNaN .f32 p3 = false) (h4 : isNaN .f32 p4 = false) (h5 : isNaN .f32 p5 = false) : ∀ {us : Array Value}, VSims c [.flt .f32 p0, .flt .f32 p1, .flt .f32 p2, .flt .f32 p3, .flt .f32 p4, .flt .f32 p5] us.toList → us = #[.float .f32 p0, .float .f32 p1, .float .f32 p2, .float .f32 p3, .float .f32 p4, .float .f32 p5]
  | ⟨[a, b, c, d, e, f]⟩, h => by
    simp only [VSims, VSim] at h
    obtain ⟨⟨b0, rfl, e0⟩, ⟨b1, rfl, e1⟩, ⟨b2, rfl, e2⟩, ⟨b3, rfl, e3⟩, ⟨b4, rfl, e4⟩, ⟨b5, rfl, e5⟩, _⟩ := h
    rw [canon_bits e0 h0, canon_bits e1 h1, canon_bits e2 h2, canon_bits e3 h3, canon_bits e4 h4, canon_bits e5 h5]
  | ⟨[]⟩, h => by simp [VSims] at h
  | ⟨[_]⟩, h => by simp [VSims] at h
  | ⟨[_, _]⟩, h => by simp [VSims] at h
  | ⟨[_, _, _]⟩, h => by simp [VSims] at h
  | ⟨[_, _, _, _]⟩, h => by simp [VSims] at h
  | ⟨[_, _, _, _, _]⟩, h => by simp [VSims] at h
  | ⟨_ :: _ :: _ :: _ :: _ :: _ :: _ :: _⟩, h => by simp [VSims] at h

set_option maxRecDepth 100000 in
theorem orbit_calls (w : World) (hiv : IvOK w) :
    Calls Try.prog 10 #[.float .f32 1065353216] w fun e w' => e = .returned (.tuple #[orbitV, .bool true]) ∧ Below w.heap.size w w' := by
  have hF : spec_CircleOrbit_c.fn [.flt .f32 1065353216] = some ⟨.tup [.agg [.flt .f32 1065353216, .flt .f32 0, .flt .f32 0, .flt .f32 0, .flt .f32 0, .flt .f32 0], .bool true], []⟩ := by
    show (DT.leaf (spec_CircleOrbit_mk (spec_CircleOrbit _))).get = _
    rw [orbit_spec]
    rfl
  refine (calls_of_fun (x := bodyOf Try.f10) Try.func10 (by kernel_rfl) (by kernel_rfl) (spec_CircleOrbit_ok w _ #[.float .f32 1065353216] _ hiv hF (by
    simp only [VSims, VSim]
    exact ⟨⟨_, rfl, canon_one⟩, trivial⟩))).mono fun e w' ⟨v, he, hR⟩ => ?_
  have hb := below_of_ret hR
  obtain ⟨pr, φ, hv, _⟩ := hR
  simp only [VSim] at hv
  obtain ⟨us, rfl, hvs⟩ := hv
  obtain ⟨x, y, rfl, hx, hy⟩ := two_of hvs
  simp only [VSim] at hx hy
  obtain ⟨cs, rfl, hcs⟩ := hx
  subst hy
  have n0 : isNaN .f32 0 = false := by decide +kernel
  rw [six_of (by decide +kernel) n0 n0 n0 n0 n0 hcs] at he
  exact ⟨he, hb⟩

theorem new_frozen {W : World} {b off : Nat} {cur : Array Value} {T : TypeId} (hb : b = W.heap.size) : (W.alloc (.cells cur T)).frozen? ⟨b, off, none⟩ = false := by
  subst hb
  have hR := heap_alloc_new W (.cells cur T)
  unfold World.frozen?
  simp only [hR]
  simp

theorem store_new {P : Program} {W : World} {b off : Nat} {cur : Array Value} {T : TypeId} (hb : b = W.heap.size) (v : Value) (ho : off < cur.size) (h1 : v.oneCell' = true) :
    (store ⟨b, off, none⟩ v).run P (W.alloc (.cells cur T)) = .ok () (W.alloc (.cells (cur.setIfInBounds off v) T)) := by
  subst hb
  have hR := heap_alloc_new W (.cells cur T)
  have hcell : (W.alloc (.cells cur T)).cell? ⟨W.heap.size, off, none⟩ = some cur[off] := by rw [World.cell?_alloc_new]; simp [ho]
  have hfro : (W.alloc (.cells cur T)).frozen? ⟨W.heap.size, off, none⟩ = false := by unfold World.frozen?; simp only [hR]; simp
  rw [run_store P _ _ v _ h1, hcell]
  simp [hfro, World.setCell_alloc_at]

theorem Held.alloc {B g : Nat} {w : World} {v : Value} {l : List Body} (h : Held B g w v l) (o : Obj) : Held B g (w.alloc o) v l :=
  h.keep (heap_alloc_old _ _ _ h.2.2.1) (by rw [World.size_alloc]; omega)

theorem store_any {P : Program} {W : World} {b off : Nat} {x : Value} (v : Value) (hc : W.cell? ⟨b, off, none⟩ = some x) (hf : W.frozen? ⟨b, off, none⟩ = false) (h1 : v.oneCell' = true) :
    (store ⟨b, off, none⟩ v).run P W = .ok () (W.setCell ⟨b, off, none⟩ v) := by
  rw [run_store P _ _ v _ h1, hc]
  simp [hf]

theorem past3 {W : World} {b off : Nat} {c0 cur : Array Value} {T : TypeId} (hW : W.heap[b]? = some (.cells c0 T (0, 0))) (o1 o2 o3 : Obj) :
    (∀ off, ((((W.setRow b cur).alloc o1).alloc o2).alloc o3).cell? ⟨b, off, none⟩ = cur[off]?) ∧ (∀ off, ((((W.setRow b cur).alloc o1).alloc o2).alloc o3).frozen? ⟨b, off, none⟩ = false) ∧ ∀ off v, ((((W.setRow b cur).alloc o1).alloc o2).alloc o3).setCell ⟨b, off, none⟩ v = (((W.setRow b (cur.setIfInBounds off v)).alloc o1).alloc o2).alloc o3 := by
  have hb : b < W.heap.size := (Array.getElem?_eq_some_iff.1 hW).1
  have e1 : b < (W.setRow b cur).heap.size := by rw [setRow_size]; exact hb
  have e2 : b < ((W.setRow b cur).alloc o1).heap.size := by rw [World.size_alloc]; omega
  have e3 : b < (((W.setRow b cur).alloc o1).alloc o2).heap.size := by rw [World.size_alloc]; omega
  have hh : ((((W.setRow b cur).alloc o1).alloc o2).alloc o3).heap[b]? = some (.cells cur T (0, 0)) := by
    rw [heap_alloc_old _ _ _ e3, heap_alloc_old _ _ _ e2, heap_alloc_old _ _ _ e1]
    exact setRow_heap W b c0 cur T (0, 0) hW
  refine ⟨fun off => cell_of_row _ b off cur T (0, 0) hh, fun off => ?_, fun off v => ?_⟩
  · unfold World.frozen?
    simp only [hh]
    simp
  · rw [World.setCell_alloc_past _ _ _ _ e3, World.setCell_alloc_past _ _ _ _ e2, World.setCell_alloc_past _ _ _ _ e1, setCell_eq_setRow _ b off cur T (0, 0) v (setRow_heap W b c0 cur T (0, 0) hW), setRow_setRow]

theorem store_past {P : Program} {W : World} {b off : Nat} {c0 cur : Array Value} {T : TypeId} (hW : W.heap[b]? = some (.cells c0 T (0, 0))) (o1 o2 o3 : Obj) (v : Value) (ho : off < cur.size) (h1 : v.oneCell' = true) :
    (store ⟨b, off, none⟩ v).run P ((((W.setRow b cur).alloc o1).alloc o2).alloc o3) = .ok () ((((W.setRow b (cur.setIfInBounds off v)).alloc o1).alloc o2).alloc o3) := by
  obtain ⟨p1, p2, p3⟩ := past3 (off := off) (cur := cur) hW o1 o2 o3
  rw [store_any (x := cur[off]) v (by rw [p1]; simp [ho]) (p2 off) h1, p3]

set_option maxHeartbeats 4000000 in
set_option maxRecDepth 100000 in
theorem desk_spec_w (w : World) (hiv : IvOK w) :
    Calls Try.prog 4 #[] w fun e w' => ∃ g n m b, e = .returned (deskV (.slice (some ⟨g, 0, none⟩) n m) (.slice b 0 0)) ∧ Held w.heap.size g w' (.slice (some ⟨g, 0, none⟩) n m) LB ∧ Below w.heap.size w w' := by
  have HV := Lib.hid hiv
  clear hiv
  have b0 : Below w.heap.size w (w.alloc (.cells zeroD 33)) := (Below.refl _ w).alloc (Nat.le_refl _) _
  have hC := circle_spec_calls _ (HV.out.below b0)
  have B0 := Lib.hid b0
  unfold zeroD at hC B0
  clear b0
  go_enter Try.func4, Try.ntmps4
  go_wp2_with fail
  refine hC.mono ?_
  rintro e W1 ⟨g, n, m, rfl, hH, hb1⟩
  have hW1 : W1.heap[w.heap.size]? = some (.cells zeroD 33 (0, 0)) := (hb1.block w.heap.size (by simp)).trans (heap_alloc_new w _)
  have hO := orbit_calls W1 ((HV.out.below B0.out).below hb1)
  have HH := Lib.hid hH
  have HB := Lib.hid hb1
  have HW1 := Lib.hid hW1
  unfold orbitV at hO
  clear hC hH hb1 hW1
  go_wp2_with fail
  refine hO.mono ?_
  rintro e W2 ⟨rfl, hb2⟩
  have HW2 := Lib.hid ((hb2.block w.heap.size (Array.getElem?_eq_some_iff.1 HW1.out).1).trans HW1.out)
  have HB2 := Lib.hid hb2
  have hlt : w.heap.size < W2.heap.size := (Array.getElem?_eq_some_iff.1 HW2.out).1
  have Hlt := Lib.hid hlt
  clear hO hb2 hlt
  go_wp2_with fail
  repeat (rw [store_new (by rfl) _ (by simp) rfl]; simp only [Result.andThen_ok])
  simp
  go_wp2_with fail
  repeat (rw [store_new (by simp) _ (by simp) rfl]; simp only [Result.andThen_ok])
  simp [World.cell?_alloc_at, World.setCell_alloc_at, new_frozen]
  go_wp2_with fail
  repeat (rw [store_new (by simp) _ (by simp) rfl]; simp only [Result.andThen_ok])
  simp
  have hlt := Hlt.out
  have hlt1 : w.heap.size < W2.heap.size + 1 := by omega
  have hlt2 : w.heap.size < W2.heap.size + 1 + 1 := by omega
  have hc2 : ∀ o, W2.cell? ⟨w.heap.size, o, none⟩ = zeroD[o]? := fun o => cell_of_row W2 w.heap.size o zeroD 33 (0, 0) HW2.out
  have hf2 : ∀ o, W2.frozen? ⟨w.heap.size, o, none⟩ = false := fun o => by
    have := HW2.out
    unfold World.frozen?
    simp only [this]
    simp
  unfold zeroD at hc2
  go_wp2_with fail
  clear hc2 hf2
  rw [setCell_eq_setRow _ _ _ _ _ _ _ HW2.out]
  repeat (rw [store_past HW2.out _ _ _ _ (by simp [zeroD]) rfl]; simp only [Result.andThen_ok])
  rw [(past3 (off := 14) HW2.out _ _ _).1, (past3 (off := 14) HW2.out _ _ _).2.1, (past3 (off := 14) HW2.out _ _ _).2.2]
  simp [zeroD]
  go_wp2
  have hsz : (w.alloc (.cells zeroD 33)).heap.size = w.heap.size + 1 := by simp
  have hle : w.heap.size ≤ (w.alloc (.cells zeroD 33)).heap.size := Nat.le_trans (Nat.le_succ _) (Nat.le_of_eq hsz.symm)
  have hB1 := B0.out.trans (HB.out.mono hle)
  have hB2 := hB1.trans (HB2.out.mono hB1.size)
  have hH2 := HH.out.below HB2.out
  have hg : w.heap.size + 1 ≤ g := Nat.le_trans (Nat.le_of_eq hsz.symm) hH2.2.1
  refine bodyPost_ret (v := deskV (.slice (some ⟨g, 0, none⟩) n m) (.slice (some ⟨W2.heap.size + 1 + 1, 0, none⟩) 0 0)) (by simp [results, Try.results4, go_sem, (past3 (off := 0) HW2.out _ _ _).1, deskV]) rfl ⟨g, n, m, _, rfl, ?_, ?_⟩
  · have hne : g ≠ w.heap.size := by omega
    exact ((((hH2.mono hle).keep (setRow_other _ _ _ _ hne) (Nat.le_of_eq (setRow_size _ _ _).symm)).alloc _).alloc _).alloc _
  · have h1 := below_row hB2 (Nat.le_refl _) #[.slice (some ⟨g, 0, none⟩) n m, .float .f32 1065353216, .float .f32 1056964608, .float .f32 0, .float .f32 0, .float .f32 1065353216, .float .f32 0, .float .f32 0, .float .f32 0, .float .f32 0, .float .f32 0, .float .f32 1056964608, .complex .f32 0 1073741824, .complex .f32 0 0, .slice (some ⟨W2.heap.size + 1 + 1, 0, none⟩) 0 0]
    have h2 := h1.alloc h1.size (.cells #[.float .f32 1065353216, .float .f32 0, .float .f32 0, .float .f32 0, .float .f32 0, .float .f32 0] 27)
    have h3 := h2.alloc h2.size (.cells #[.slice (some ⟨g, 0, none⟩) n m, .float .f32 1065353216, .float .f32 1056964608, .float .f32 0, .float .f32 0, .float .f32 1065353216, .float .f32 0, .float .f32 0, .float .f32 0, .float .f32 0, .float .f32 0, .float .f32 1056964608, .complex .f32 0 1073741824, .complex .f32 0 0, .slice (some ⟨W2.heap.size + 1 + 1, 0, none⟩) 0 0] 33)
    exact h3.alloc h3.size _

end Go.Proofs.Ytacelaaifaffpaa
