/- The law of a new desk, walked. -/
import Derived.Test.YtacelaaifaffpaaD8
namespace Go.Proofs.Ytacelaaifaffpaa
open Go.RowKit Go.Extern
set_option linter.unusedVariables false
set_option linter.unusedSimpArgs false

/-- A block that holds a desk. -/
def DeskAt (w : World) (b : Nat) (x en : Value) : Prop := w.heap[b]? = some (.cells (cellsD x en) 33 (0, 0))

theorem DeskAt.lt {w : World} {b : Nat} {x en : Value} (h : DeskAt w b x en) : b < w.heap.size := (Array.getElem?_eq_some_iff.1 h).1
theorem DeskAt.below {w w' : World} {b : Nat} {x en : Value} (h : DeskAt w b x en) (hb : Below w.heap.size w w') : DeskAt w' b x en := (hb.block b h.lt).trans h
theorem DeskAt.but {w w' : World} {g b : Nat} {x en : Value} (h : DeskAt w b x en) (hb : But g w w') (hg : b ≠ g) : DeskAt w' b x en := (hb.1 b h.lt hg).trans h
theorem DeskAt.new (w : World) (x en : Value) : DeskAt (w.alloc (.cells (cellsD x en) 33)) w.heap.size x en := heap_alloc_new w _
theorem DeskAt.cells {w : World} {b : Nat} {x en : Value} (h : DeskAt w b x en) : (∀ o, w.cell? ⟨b, o, none⟩ = (cellsD x en)[o]?) ∧ ∀ o, w.frozen? ⟨b, o, none⟩ = false := by
  refine ⟨fun o => cell_of_row w b o _ _ _ h, fun o => ?_⟩
  unfold DeskAt at h
  unfold World.frozen?
  simp only [h]
  simp

theorem But.below {g : Nat} {a b : World} (h : But g a b) (hg : a.heap.size ≤ g) : Below a.heap.size a b :=
  ⟨h.2.1, h.2.2.1, h.2.2.2.1, h.2.2.2.2, fun k hk => h.1 k hk (by omega)⟩
theorem Held.but {B g g' : Nat} {w w' : World} {v : Value} {l : List Body} (h : Held B g w v l) (hb : But g' w w') (hg : g ≠ g') : Held B g w' v l :=
  h.keep (hb.1 g h.2.2.1 hg) hb.2.2.2.2

abbrev sl (g n m : Nat) : Value := .slice (some ⟨g, 0, none⟩) n m

/-- What is kept of the law's desks. -/
structure Kept (w : World) (b1 b2 g1 n1 m1 g2 n2 m2 : Nat) (a1 : Option Addr) (L : List Body) (W : World) : Prop where
  d1 : DeskAt W b1 (sl g1 n1 m1) (.slice a1 0 0)
  d2 : DeskAt W b2 (sl g2 n2 m2) (.slice none 0 0)
  h1 : Held 0 g1 W (sl g1 n1 m1) LB
  h2 : Held 0 g2 W (sl g2 n2 m2) L
  k : But g2 w W

theorem Kept.below {w : World} {b1 b2 g1 n1 m1 g2 n2 m2 : Nat} {a1 : Option Addr} {L : List Body} {W W' : World} (h : Kept w b1 b2 g1 n1 m1 g2 n2 m2 a1 L W) (hb : Below W.heap.size W W') : Kept w b1 b2 g1 n1 m1 g2 n2 m2 a1 L W' :=
  ⟨h.d1.below hb, h.d2.below hb, h.h1.below hb, h.h2.below hb, h.k.trans (But.of hb)⟩

theorem Kept.cells {w : World} {b1 b2 g1 n1 m1 g2 n2 m2 : Nat} {a1 : Option Addr} {L : List Body} {W : World} (h : Kept w b1 b2 g1 n1 m1 g2 n2 m2 a1 L W) :
    (∀ o, W.cell? ⟨b1, o, none⟩ = (cellsD (sl g1 n1 m1) (.slice a1 0 0))[o]?) ∧ (∀ o, W.frozen? ⟨b1, o, none⟩ = false) ∧
    (∀ o, W.cell? ⟨b2, o, none⟩ = (cellsD (sl g2 n2 m2) (.slice none 0 0))[o]?) ∧ (∀ o, W.frozen? ⟨b2, o, none⟩ = false) :=
  ⟨h.d1.cells.1, h.d1.cells.2, h.d2.cells.1, h.d2.cells.2⟩

/-! ## The law's code in parts -/
def cutC : Nat → Code → Code → Code
  | 0, c, _ => c
  | n + 1, c, .seq a b => .seq a (cutC n c b)
  | _ + 1, _, x => x
def tailC : Nat → Code → Code
  | 0, x => x
  | n + 1, .seq _ b => tailC n b
  | _ + 1, x => x
theorem cut_tail : ∀ (n : Nat) (x : Code), cutC n (tailC n x) x = x
  | 0, x => rfl
  | n + 1, .seq a b => by simp only [cutC, tailC, cut_tail n b]
  | n + 1, x => by cases x <;> first | rfl | simp only [cutC, tailC, cut_tail n]
theorem tail_tail : ∀ (m n : Nat) (x : Code), tailC n (tailC m x) = tailC (m + n) x
  | 0, n, x => by rw [Nat.zero_add]; rfl
  | m + 1, n, .seq a b => by rw [Nat.succ_add]; exact tail_tail m n b
  | m + 1, n, x => by
    cases x <;> first
      | (rw [Nat.succ_add]; exact tail_tail m n _)
      | (cases n <;> rfl)
noncomputable def lawC : Code := bodyOf Try.f3

set_option maxHeartbeats 4000000 in
set_option maxRecDepth 100000 in
theorem partA {w : World} {c : Code} {Q : Exit → Act → World → Prop}
    (hk : ∀ (b1 b2 g1 n1 m1 g2 n2 m2 : Nat) (a1 : Option Addr) (u6 u7 : Value) (W : World), b1 < g2 → g2 < b2 → g1 < b1 → w.heap.size ≤ b1 → Kept w b1 b2 g1 n1 m1 g2 n2 m2 a1 LB W → Code.wp Try.prog c Q ⟨#[.bool false, .pointer (some ⟨b1, 0, none⟩), .pointer (some ⟨b2, 0, none⟩), undef, undef, undef, u6, u7, undef, undef, undef, undef, undef, undef, undef, undef, undef, undef, undef, undef, undef, undef, undef, undef, undef, undef, undef, undef, undef, undef, undef, undef, undef, undef, undef, undef], []⟩ W) :
    Code.wp Try.prog (cutC 3 c lawC) Q ⟨#[undef, undef, undef, undef, undef, undef, undef, undef, undef, undef, undef, undef, undef, undef, undef, undef, undef, undef, undef, undef, undef, undef, undef, undef, undef, undef, undef, undef, undef, undef, undef, undef, undef, undef, undef, undef], []⟩ w := by
  have HK := Lib.hid hk
  have c1 := desk_spec_w w (ivAny _)
  clear hk
  unfold lawC bodyOf Try.f3
  dsimp only [cutC, Option.getD]
  go_wp2_with fail
  refine c1.mono ?_
  rintro e W1 ⟨g1, n1, m1, a1, rfl, hH1, hb1⟩
  have HH1 := Lib.hid hH1
  have HB1 := Lib.hid hb1
  clear c1 hH1 hb1
  unfold deskV
  go_wp2_with fail
  repeat (rw [store_new (by rfl) _ (by simp) rfl]; simp only [Result.andThen_ok])
  simp
  go_wp2_with fail
  refine (desk_impl_w _ (ivAny _)).mono ?_
  rintro e W2 ⟨g2, n2, m2, rfl, hH2, hb2⟩
  have hF : RowKit.Hid (W1.heap.size < g2 ∧ g2 < W2.heap.size ∧ w.heap.size ≤ W1.heap.size ∧ g1 < W1.heap.size ∧ W1.heap.size < W2.heap.size ∧ DeskAt W2 W1.heap.size (sl g1 n1 m1) (.slice a1 0 0) ∧ Held 0 g1 W2 (sl g1 n1 m1) LB ∧ Held 0 g2 W2 (sl g2 n2 m2) LB ∧ But g2 w W2) := by
    have e1 := hH2.2.1
    have e2 := hb2.size
    simp at e1 e2
    exact Lib.hid ⟨by omega, hH2.2.2.1, HB1.out.size, HH1.out.2.2.1, by omega, DeskAt.below (DeskAt.new W1 _ _) hb2, ((HH1.out.mono (Nat.zero_le _)).alloc _).below hb2, hH2.mono (Nat.zero_le _),
      ((But.of HB1.out).trans (But.of ((Below.refl _ W1).alloc (Nat.le_refl _) _))).trans (But.of hb2)⟩
  clear HH1 HB1 hH2 hb2
  unfold deskV
  go_wp2_with fail
  repeat (rw [store_new (by rfl) _ (by simp) rfl]; simp only [Result.andThen_ok])
  simp [World.setCell_alloc_at]
  go_wp2_with fail
  obtain ⟨f0, f1, f2, f3, f4, f5, f6, f7, f8⟩ := hF.out
  have hbA : Below W2.heap.size W2 (W2.alloc (.cells (cellsD (.slice (some ⟨g2, 0, none⟩) n2 m2) (.slice none 0 0)) 33)) := (Below.refl _ W2).alloc (Nat.le_refl _) _
  exact HK.out W1.heap.size W2.heap.size g1 n1 m1 g2 n2 m2 a1 _ _ _ f0 f1 f3 f2 ⟨f5.below hbA, DeskAt.new W2 _ _, f6.below hbA, f7.below hbA, f8.trans (But.of hbA)⟩

set_option maxHeartbeats 4000000 in
set_option maxRecDepth 100000 in
theorem partB {w : World} {b1 b2 g1 n1 m1 g2 n2 m2 : Nat} {a1 : Option Addr} {c : Code} {Q : Exit → Act → World → Prop} (u6 u7 : Value) {W : World} (hb1 : b1 < g2) (hb2 : g2 < b2) (hb3 : g1 < b1) (hK : Kept w b1 b2 g1 n1 m1 g2 n2 m2 a1 LB W)
    (hk : ∀ (u6 u7 u8 u9 u10 u11 u12 u13 u14 : Value) (W : World), Kept w b1 b2 g1 n1 m1 g2 n2 m2 a1 LM W → Code.wp Try.prog c Q ⟨#[.bool false, .pointer (some ⟨b1, 0, none⟩), .pointer (some ⟨b2, 0, none⟩), .int .i64 15, undef, undef, u6, u7, u8, u9, u10, u11, u12, u13, u14, undef, undef, undef, undef, undef, undef, undef, undef, undef, undef, undef, undef, undef, undef, undef, undef, undef, undef, undef, undef, undef], []⟩ W) :
    Code.wp Try.prog (cutC 3 c (tailC 3 lawC)) Q ⟨#[.bool false, .pointer (some ⟨b1, 0, none⟩), .pointer (some ⟨b2, 0, none⟩), undef, undef, undef, u6, u7, undef, undef, undef, undef, undef, undef, undef, undef, undef, undef, undef, undef, undef, undef, undef, undef, undef, undef, undef, undef, undef, undef, undef, undef, undef, undef, undef, undef], []⟩ W := by
  have HK := Lib.hid hk
  have KA := Lib.hid hK
  have HN := Lib.hid (show b1 < g2 ∧ g2 < b2 ∧ g1 < b1 from ⟨hb1, hb2, hb3⟩)
  clear hk hK hb1 hb2 hb3
  obtain ⟨hc1, hf1, hc2, hf2⟩ := KA.out.cells
  unfold cellsD sl at hc1 hc2
  unfold lawC bodyOf Try.f3
  dsimp only [cutC, tailC, Option.getD]
  go_wp2_with fail
  refine (eqDesk_w 0 g2 g1 n2 m2 n1 m1 none a1 W (ivAny _) KA.out.h2 KA.out.h1).mono ?_
  rintro e W3 ⟨rfl, hb3⟩
  have K3 := Lib.hid (KA.out.below hb3)
  clear hc1 hf1 hc2 hf2 hb3
  obtain ⟨hc1, hf1, hc2, hf2⟩ := K3.out.cells
  unfold cellsD sl at hc1 hc2
  go_wp2_with fail
  refine (markDesk_w 0 g2 n2 m2 W3 K3.out.h2).mono ?_
  rintro e W4 ⟨rfl, hH4, hk4⟩
  have K4 : RowKit.Hid (Kept w b1 b2 g1 n1 m1 g2 n2 m2 a1 LM W4) := by
    obtain ⟨f1, f2, f3⟩ := HN.out
    exact Lib.hid ⟨K3.out.d1.but hk4 (by omega), K3.out.d2.but hk4 (by omega), K3.out.h1.but hk4 (by omega), hH4, K3.out.k.trans hk4⟩
  clear hc1 hf1 hc2 hf2 hH4 hk4
  go_wp2_with fail
  exact HK.out _ _ _ _ _ _ _ _ _ W4 K4.out

set_option maxHeartbeats 4000000 in
set_option maxRecDepth 100000 in
theorem partC {w : World} {b1 b2 g1 n1 m1 g2 n2 m2 : Nat} {a1 : Option Addr} {c : Code} {Q : Exit → Act → World → Prop} (u6 u7 u8 u9 u10 u11 u12 u13 u14 : Value) {W : World} (hK : Kept w b1 b2 g1 n1 m1 g2 n2 m2 a1 LM W)
    (hk : ∀ (u6 u7 u8 u9 u10 u11 u12 u13 u14 u15 u16 u17 u18 u19 u20 u21 u22 : Value) (W : World), Kept w b1 b2 g1 n1 m1 g2 n2 m2 a1 LM W → Code.wp Try.prog c Q ⟨#[.bool false, .pointer (some ⟨b1, 0, none⟩), .pointer (some ⟨b2, 0, none⟩), .int .i64 15, .int .i64 15, undef, u6, u7, u8, u9, u10, u11, u12, u13, u14, u15, u16, u17, u18, u19, u20, u21, u22, undef, undef, undef, undef, undef, undef, undef, undef, undef, undef, undef, undef, undef], []⟩ W) :
    Code.wp Try.prog (cutC 4 c (tailC 6 lawC)) Q ⟨#[.bool false, .pointer (some ⟨b1, 0, none⟩), .pointer (some ⟨b2, 0, none⟩), .int .i64 15, undef, undef, u6, u7, u8, u9, u10, u11, u12, u13, u14, undef, undef, undef, undef, undef, undef, undef, undef, undef, undef, undef, undef, undef, undef, undef, undef, undef, undef, undef, undef, undef], []⟩ W := by
  have HK := Lib.hid hk
  have KA := Lib.hid hK
  clear hk hK
  obtain ⟨hc1, hf1, hc2, hf2⟩ := KA.out.cells
  unfold cellsD sl at hc1 hc2
  unfold lawC bodyOf Try.f3
  dsimp only [cutC, tailC, Option.getD]
  go_wp2_with fail
  refine (heldDesk_w 0 g2 n2 m2 none W KA.out.h2).mono ?_
  rintro e W5 ⟨rfl, hb5⟩
  have K5 := Lib.hid (KA.out.below hb5)
  clear hc1 hf1 hc2 hf2 hb5
  go_wp2_with fail
  exact HK.out _ _ _ _ _ _ _ _ _ _ _ _ _ _ _ _ _ W5 K5.out

set_option maxHeartbeats 4000000 in
set_option maxRecDepth 100000 in
theorem partD {w : World} {b1 b2 g1 n1 m1 g2 n2 m2 : Nat} {a1 : Option Addr} {c : Code} {Q : Exit → Act → World → Prop} (u6 u7 u8 u9 u10 u11 u12 u13 u14 u15 u16 u17 u18 u19 u20 u21 u22 : Value) {W : World} (hK : Kept w b1 b2 g1 n1 m1 g2 n2 m2 a1 LM W)
    (hk : ∀ (b3 g3 n3 m3 : Nat) (u6 u7 u8 u9 u10 u11 u12 u13 u14 u15 u16 u17 u18 u19 u20 u21 u22 u23 : Value) (W : World), Kept w b1 b2 g1 n1 m1 g2 n2 m2 a1 LM W → DeskAt W b3 (sl g3 n3 m3) (.slice none 0 0) → Held 0 g3 W (sl g3 n3 m3) LB → Code.wp Try.prog c Q ⟨#[.bool false, .pointer (some ⟨b1, 0, none⟩), .pointer (some ⟨b2, 0, none⟩), .int .i64 15, .int .i64 15, .pointer (some ⟨b3, 0, none⟩), u6, u7, u8, u9, u10, u11, u12, u13, u14, u15, u16, u17, u18, u19, u20, u21, u22, u23, undef, undef, undef, undef, undef, undef, undef, undef, undef, undef, undef, undef], []⟩ W) :
    Code.wp Try.prog (cutC 1 c (tailC 10 lawC)) Q ⟨#[.bool false, .pointer (some ⟨b1, 0, none⟩), .pointer (some ⟨b2, 0, none⟩), .int .i64 15, .int .i64 15, undef, u6, u7, u8, u9, u10, u11, u12, u13, u14, u15, u16, u17, u18, u19, u20, u21, u22, undef, undef, undef, undef, undef, undef, undef, undef, undef, undef, undef, undef, undef], []⟩ W := by
  have HK := Lib.hid hk
  have K5 := Lib.hid hK
  clear hk hK
  unfold lawC bodyOf Try.f3
  dsimp only [cutC, tailC, Option.getD]
  go_wp2_with fail
  refine (desk_impl_w W (ivAny _)).mono ?_
  rintro e W6 ⟨g3, n3, m3, rfl, hH6, hb6⟩
  have K6 := Lib.hid (K5.out.below hb6)
  have HH6 := Lib.hid (hH6.mono (Nat.zero_le _))
  clear hH6 hb6
  unfold deskV
  go_wp2_with fail
  repeat (rw [store_new (by rfl) _ (by simp) rfl]; simp only [Result.andThen_ok])
  simp [World.setCell_alloc_at]
  go_wp2_with fail
  have hbB : Below W6.heap.size W6 (W6.alloc (.cells (cellsD (.slice (some ⟨g3, 0, none⟩) n3 m3) (.slice none 0 0)) 33)) := (Below.refl _ W6).alloc (Nat.le_refl _) _
  exact HK.out W6.heap.size g3 n3 m3 _ _ _ _ _ _ _ _ _ _ _ _ _ _ _ _ _ _ _ (K6.out.below hbB) (DeskAt.new W6 _ _) (HH6.out.below hbB)

set_option maxHeartbeats 4000000 in
set_option maxRecDepth 100000 in
theorem partE {w : World} {b1 b2 g1 n1 m1 g2 n2 m2 : Nat} {a1 : Option Addr} {b3 g3 n3 m3 : Nat} (u6 u7 u8 u9 u10 u11 u12 u13 u14 u15 u16 u17 u18 u19 u20 u21 u22 u23 : Value) {W : World} {R : Ending → World → Prop} (hK : Kept w b1 b2 g1 n1 m1 g2 n2 m2 a1 LM W) (hD : DeskAt W b3 (sl g3 n3 m3) (.slice none 0 0)) (hH : Held 0 g3 W (sl g3 n3 m3) LB)
    (hk : ∀ (W : World), Kept w b1 b2 g1 n1 m1 g2 n2 m2 a1 LM W → R (.returned (.bool true)) W) :
    Code.wp Try.prog (tailC 11 lawC) (bodyPost Try.prog Try.f3 R) ⟨#[.bool false, .pointer (some ⟨b1, 0, none⟩), .pointer (some ⟨b2, 0, none⟩), .int .i64 15, .int .i64 15, .pointer (some ⟨b3, 0, none⟩), u6, u7, u8, u9, u10, u11, u12, u13, u14, u15, u16, u17, u18, u19, u20, u21, u22, u23, undef, undef, undef, undef, undef, undef, undef, undef, undef, undef, undef, undef], []⟩ W := by
  have HK := Lib.hid hk
  have KB := Lib.hid hK
  have HH := Lib.hid hH
  have HD := Lib.hid hD
  clear hk hK hH hD
  obtain ⟨hc1, hf1, hc2, hf2⟩ := KB.out.cells
  obtain ⟨hc3, hf3⟩ := HD.out.cells
  unfold cellsD sl at hc1 hc2 hc3
  conv => arg 2; dsimp only [lawC, bodyOf, Try.f3, tailC, Option.getD]
  go_wp2_with fail
  refine (eqDesk_w 0 g3 g1 n3 m3 n1 m1 none a1 W (ivAny _) HH.out KB.out.h1).mono ?_
  rintro e W7 ⟨rfl, hb7⟩
  have K7 := Lib.hid (KB.out.below hb7)
  clear hc1 hf1 hc2 hf2 hc3 hf3 hb7
  obtain ⟨hc1, hf1, hc2, hf2⟩ := K7.out.cells
  unfold cellsD sl at hc1 hc2
  go_wp2_with fail
  refine (heldDesk_w 0 g2 n2 m2 none W7 K7.out.h2).mono ?_
  rintro e W8 ⟨rfl, hb8⟩
  have K8 := Lib.hid (K7.out.below hb8)
  clear hc1 hf1 hc2 hf2 hb8
  go_wp2
  exact HK.out W8 K8.out

set_option maxHeartbeats 4000000 in
set_option maxRecDepth 100000 in
theorem law_w (w : World) :
    Calls Try.prog 3 #[] w fun e w' => e = .returned (.bool true) ∧ Below w.heap.size w w' := by
  refine calls_of_wp Try.func3 (c := lawC) rfl ?_
  simp only [Try.ntmps3, List.size_toArray, List.length_cons, List.length_nil, Nat.reduceAdd, Nat.reduceSub, Array.replicate_succ,
     Array.replicate_zero, List.push_toArray, List.append_toArray, List.nil_append, List.cons_append]
  rw [← cut_tail 3 lawC]
  refine partA fun b1 b2 g1 n1 m1 g2 n2 m2 a1 u6 u7 W h1 h2 h3 h4 hK => ?_
  rw [← cut_tail 3 (tailC 3 lawC), tail_tail]
  refine partB u6 u7 h1 h2 h3 hK fun u6 u7 u8 u9 u10 u11 u12 u13 u14 W hK => ?_
  rw [← cut_tail 4 (tailC 6 lawC), tail_tail]
  refine partC u6 u7 u8 u9 u10 u11 u12 u13 u14 hK fun u6 u7 u8 u9 u10 u11 u12 u13 u14 u15 u16 u17 u18 u19 u20 u21 u22 W hK => ?_
  rw [← cut_tail 1 (tailC 10 lawC), tail_tail]
  refine partD u6 u7 u8 u9 u10 u11 u12 u13 u14 u15 u16 u17 u18 u19 u20 u21 u22 hK fun b3 g3 n3 m3 u6 u7 u8 u9 u10 u11 u12 u13 u14 u15 u16 u17 u18 u19 u20 u21 u22 u23 W hK hD hH => ?_
  exact partE u6 u7 u8 u9 u10 u11 u12 u13 u14 u15 u16 u17 u18 u19 u20 u21 u22 u23 hK hD hH fun W hK => ⟨rfl, hK.k.below (by omega)⟩

end Go.Proofs.Ytacelaaifaffpaa
