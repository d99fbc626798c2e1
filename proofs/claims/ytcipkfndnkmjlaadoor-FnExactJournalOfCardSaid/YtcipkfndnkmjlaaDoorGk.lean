/- THE WALK, BY A PROGRAM: typed functions, and that the code is they. -/
import Derived.Test.YtcipkfndnkmjlaaDoorJ2
namespace Go.Proofs.YtcipkfndnkmjlaaDoor
set_option linter.unusedVariables false
set_option linter.unusedSimpArgs false
open Go.Extern
noncomputable section

/-- a loop of laws_szStringS -/
def laws_szStringS_loop0_step (p : List (List UInt8)) (s : Int × Int) : Round (Int × Int) ((Int) ⊕ (Int)) :=
  let x0 := ((List.length p : Nat) : Int);
  let x1 := decide (s.2 < x0);
  .ask x1
  (
   .need ((decide (0 ≤ s.2) && decide (s.2 < ((List.length p : Nat) : Int)))) (
   let x2 := List.getD p (Int.toNat s.2) default;
   let x3 := ((List.length x2 : Nat) : Int);
   let x4 := IntKind.wrap .i64 (s.1 - x3);
   let x5 := decide (x4 < 0);
   .ask x5
   (
    .leaf (.inr (.inl (-1)), []))
   (
    let x6 := IntKind.wrap .i64 (s.2 + 1);
    .leaf (.inl (x4, x6), []))))
  (
   .leaf (.inr (.inr s.1), []))
def laws_szStringS_loop0_L (p : List (List UInt8)) : LoopS (Int × Int) ((Int) ⊕ (Int)) := { tl := fun s => [.vslc 1 .str p, .int .i64 s.1, .junk, .junk, .junk, .int .i64 s.2], hl := fun s => [], ex := fun r => match r with | .inl r => .ret | .inr r => .exit 0, otl := fun r => match r with | .inl r => [.junk, .junk, .junk, .junk, .int .i64 r] | .inr r => [.junk, .int .i64 r], ohl := fun r => match r with | .inl r => [] | .inr r => [] }
def laws_szStringS_loop0_ext : St → Option ((List (List UInt8)) × (Int × Int) × List Nat) := fun S => match (S.tm 0).unK, (S.tm 1).unK, (S.tm 5).unK with
  | .vslc 1 .str q0, .int .i64 q1, .int .i64 q2 => some (q0, (q1, q2), [])
  | _, _, _ => none
def laws_szStringS_loop0_post (p : List (List UInt8)) (r : (Int) ⊕ (Int)) : DT (Ex × St) := .ask (isL r) (.leaf (.ret, LSt [.junk, .junk, .junk, .junk, .int .i64 ((leftD r))] [])) (.leaf (.exit 0, LSt [.junk, .int .i64 ((rightD r))] []))
def laws_szStringS_loop0 (p : List (List UInt8)) (s : Int × Int) : (Int) ⊕ (Int) := loopVal (laws_szStringS_loop0_step p) s
def laws_szStringS_loop0_ends (p : List (List UInt8)) (s : Int × Int) : Bool := loopEnds (laws_szStringS_loop0_step p) s
def laws_szStringS_loop0_F : LoopF := loopF laws_szStringS_loop0_step laws_szStringS_loop0_ext laws_szStringS_loop0_post
theorem laws_szStringS_loop0_hext : ∀ S p s fl, laws_szStringS_loop0_ext S = some (p, s, fl) → Norm S fl ((laws_szStringS_loop0_L p).tl s) ((laws_szStringS_loop0_L p).hl s) (laws_szStringS_loop0_L p).gl := by
  intro S p s fl h
  unfold laws_szStringS_loop0_ext at h
  (repeat' split at h) <;> first
    | (cases h; constructor <;> simp_all [laws_szStringS_loop0_L, keepT, keepH, rens, renH, PV.ren, Blk.ren, fOf, lget, nodup, natIn, lenEq, gtm, PV.unK])
    | cases h
theorem laws_szStringS_loop0_hpost : ∀ p r e S', (laws_szStringS_loop0_post p r).get = some (e, S') → e = (laws_szStringS_loop0_L p).ex r ∧ S' = LSt ((laws_szStringS_loop0_L p).otl r) ((laws_szStringS_loop0_L p).ohl r) ((laws_szStringS_loop0_L p).ogl r) := by
  intro p r e S' h
  unfold laws_szStringS_loop0_post at h
  cases r <;> (simp only [isL, DT.get, Option.some.injEq, Prod.mk.injEq] at h; exact ⟨h.1.symm, h.2.symm⟩)

def laws_szStringS_loops : Nat → Option LoopF := loopTab [(5, laws_szStringS_loop0_F)]
set_option maxRecDepth 100000 in
theorem laws_szStringS_l0 : LoopOK Tryd.prog ⟨gam [], tab, 28, laws_szStringS_loops⟩ (lp Tryd.f38 0) :=
  loopOK_some (F := laws_szStringS_loop0_F) (by kernel_rfl) (loopF_ok (E := ⟨gam [], tab, 28, laws_szStringS_loops⟩) ⟨gam_nil, tab_ok, by kernel_rfl⟩ (fuel := 100000) (loopsOK_list (l := []) (by kernel_rfl) trivial) (L := laws_szStringS_loop0_L) (fun p s => by unfold AgreeL; exact ⟨by kernel_rfl, by kernel_rfl⟩) (fun _ r h => by cases r <;> exact Ex.noConfusion h) laws_szStringS_loop0_hext laws_szStringS_loop0_hpost)
/-- loop.example/g01284/laws.szStringS -/
def laws_szStringS_tree (a0 : List (List UInt8)) (a1 : Int) : DT (Int) :=
  let x0 := ((List.length a0 : Nat) : Int);
  let x1 := IntKind.wrap .i64 (a1 - x0);
  let x2 := decide (x1 < 0);
  .ask x2
  (
   .leaf (-1))
  (
   .need ((laws_szStringS_loop0_ends a0 (x1, 0))) (
   let x3 := laws_szStringS_loop0 a0 (x1, 0);
   .ask ((isL x3))
   (
    .leaf ((leftD x3)))
   (
    .leaf ((rightD x3)))))
def laws_szStringS (a0 : List (List UInt8)) (a1 : Int) : Int := (laws_szStringS_tree a0 a1).val
def laws_szStringS_need (a0 : List (List UInt8)) (a1 : Int) : Bool := (laws_szStringS_tree a0 a1).ok
def laws_szStringS_mk (p : Int) : Ret := ⟨.int .i64 p, []⟩
def laws_szStringS_c0 : Con := fun args => match args with
  | [.vslc 1 .str a0, .int .i64 a1] => some (.need (laws_szStringS_need a0 a1) (.leaf (laws_szStringS_mk (laws_szStringS a0 a1))))
  | _ => none
set_option maxRecDepth 100000 in
theorem laws_szStringS_ok0 : FunOK Tryd.prog 38 laws_szStringS_c0.fn := by
  refine con_ok (Γ := gam []) (gam_nil) tab_ok (by kernel_rfl) Tryd.func38 (by kernel_rfl) (by kernel_rfl) Tryd.ntmps38 Tryd.results38 (loops := laws_szStringS_loops) (loopsOK_list (l := [lp Tryd.f38 0]) (by kernel_rfl) ⟨laws_szStringS_l0, trivial⟩) 100000 fun args t h => ?_
  unfold laws_szStringS_c0 at h
  split at h
  · rename_i a0 a1
    cases h
    exact ⟨rfl, agree_need (mk := laws_szStringS_mk) (t := laws_szStringS_tree a0 a1) (by unfold Agree; kernel_rfl)⟩
  · cases h
def laws_szStringS_c : Con := fun args => laws_szStringS_c0 (norms 0 [.slc .str, .none] args)
set_option maxRecDepth 100000 in
theorem laws_szStringS_ok : FunOK Tryd.prog 38 laws_szStringS_c.fn := con_norm [.slc .str, .none] laws_szStringS_ok0

/-- a loop of laws_toStringS -/
def laws_toStringS_loop0_step (p : List (List UInt8)) (s : Int × List (List UInt8)) : Round (Int × List (List UInt8)) (List (List UInt8)) :=
  let x0 := ((List.length p : Nat) : Int);
  let x1 := decide (s.1 < x0);
  .ask x1
  (
   .need ((decide (0 ≤ s.1) && decide (s.1 < ((List.length p : Nat) : Int)))) (
   let x2 := List.getD p (Int.toNat s.1) default;
   .need ((decide (0 ≤ s.1) && decide (s.1 < ((List.length s.2 : Nat) : Int)))) (
   .need ((decide ((Int.toNat s.1) < List.length s.2))) (
   let x3 := List.set s.2 (Int.toNat s.1) x2;
   let x4 := IntKind.wrap .i64 (s.1 + 1);
   .leaf (.inl (x4, x3), [0])))))
  (
   .leaf (.inr s.2, [0]))
def laws_toStringS_loop0_L (p : List (List UInt8)) : LoopS (Int × List (List UInt8)) (List (List UInt8)) := { tl := fun s => [.vslc 1 .str p, .junk, .junk, .own 0, .int .i64 s.1], hl := fun s => [some (.typed 9 .str s.2)], ex := fun r => .exit 0, otl := fun r => [.junk, .junk, .junk, .own 0], ohl := fun r => [some (.typed 9 .str r)] }
def laws_toStringS_loop0_ext : St → Option ((List (List UInt8)) × (Int × List (List UInt8)) × List Nat) := fun S => match (S.tm 0).unK, (S.tm 3).unK, (S.tm 4).unK with
  | .vslc 1 .str q0, .own i0, .int .i64 q1 => (match S.hp i0 with
    | some (.typed 9 .str q2) => some (q0, (q1, q2), [i0])
    | _ => none)
  | _, _, _ => none
def laws_toStringS_loop0_post (p : List (List UInt8)) (r : List (List UInt8)) : DT (Ex × St) := .leaf (.exit 0, LSt [.junk, .junk, .junk, .own 0] [some (.typed 9 .str r)])
def laws_toStringS_loop0 (p : List (List UInt8)) (s : Int × List (List UInt8)) : List (List UInt8) := loopVal (laws_toStringS_loop0_step p) s
def laws_toStringS_loop0_ends (p : List (List UInt8)) (s : Int × List (List UInt8)) : Bool := loopEnds (laws_toStringS_loop0_step p) s
def laws_toStringS_loop0_F : LoopF := loopF laws_toStringS_loop0_step laws_toStringS_loop0_ext laws_toStringS_loop0_post
theorem laws_toStringS_loop0_hext : ∀ S p s fl, laws_toStringS_loop0_ext S = some (p, s, fl) → Norm S fl ((laws_toStringS_loop0_L p).tl s) ((laws_toStringS_loop0_L p).hl s) (laws_toStringS_loop0_L p).gl := by
  intro S p s fl h
  unfold laws_toStringS_loop0_ext at h
  (repeat' split at h) <;> first
    | (cases h; constructor <;> simp_all [laws_toStringS_loop0_L, keepT, keepH, rens, renH, PV.ren, Blk.ren, fOf, lget, nodup, natIn, lenEq, gtm, PV.unK])
    | cases h
theorem laws_toStringS_loop0_hpost : ∀ p r e S', (laws_toStringS_loop0_post p r).get = some (e, S') → e = (laws_toStringS_loop0_L p).ex r ∧ S' = LSt ((laws_toStringS_loop0_L p).otl r) ((laws_toStringS_loop0_L p).ohl r) ((laws_toStringS_loop0_L p).ogl r) := by
  intro p r e S' h
  unfold laws_toStringS_loop0_post at h
  simp only [DT.get, Option.some.injEq, Prod.mk.injEq] at h; exact ⟨h.1.symm, h.2.symm⟩

def laws_toStringS_loops : Nat → Option LoopF := loopTab [(3, laws_toStringS_loop0_F)]
set_option maxRecDepth 100000 in
theorem laws_toStringS_l0 : LoopOK Tryd.prog ⟨gam [], tab, 22, laws_toStringS_loops⟩ (lp Tryd.f40 0) :=
  loopOK_some (F := laws_toStringS_loop0_F) (by kernel_rfl) (loopF_ok (E := ⟨gam [], tab, 22, laws_toStringS_loops⟩) ⟨gam_nil, tab_ok, by kernel_rfl⟩ (fuel := 100000) (loopsOK_list (l := []) (by kernel_rfl) trivial) (L := laws_toStringS_loop0_L) (fun p s => by unfold AgreeL; exact ⟨by kernel_rfl, by kernel_rfl⟩) (fun _ _ h => Ex.noConfusion h) laws_toStringS_loop0_hext laws_toStringS_loop0_hpost)
/-- loop.example/g01284/laws.toStringS -/
def laws_toStringS_tree (a0 : List (List UInt8)) : DT (List (List UInt8)) :=
  let x0 := ((List.length a0 : Nat) : Int);
  .need ((decide (0 ≤ x0) && decide (x0 ≤ x0) && decide (16 * x0 ≤ 281474976710656) && decide (x0 ≤ 9223372036854775807))) (
  let x1 := List.replicate (Int.toNat x0) [];
  .need ((laws_toStringS_loop0_ends a0 (0, x1))) (
  let x2 := laws_toStringS_loop0 a0 (0, x1);
  .leaf x2))
def laws_toStringS (a0 : List (List UInt8)) : List (List UInt8) := (laws_toStringS_tree a0).val
def laws_toStringS_need (a0 : List (List UInt8)) : Bool := (laws_toStringS_tree a0).ok
def laws_toStringS_mk (p : List (List UInt8)) : Ret := ⟨.own 0, [.typed 9 .str p]⟩
def laws_toStringS_c0 : Con := fun args => match args with
  | [.vslc 1 .str a0] => some (.need (laws_toStringS_need a0) (.leaf (laws_toStringS_mk (laws_toStringS a0))))
  | _ => none
set_option maxRecDepth 100000 in
theorem laws_toStringS_ok0 : FunOK Tryd.prog 40 laws_toStringS_c0.fn := by
  refine con_ok (Γ := gam []) (gam_nil) tab_ok (by kernel_rfl) Tryd.func40 (by kernel_rfl) (by kernel_rfl) Tryd.ntmps40 Tryd.results40 (loops := laws_toStringS_loops) (loopsOK_list (l := [lp Tryd.f40 0]) (by kernel_rfl) ⟨laws_toStringS_l0, trivial⟩) 100000 fun args t h => ?_
  unfold laws_toStringS_c0 at h
  split at h
  · rename_i a0
    cases h
    exact ⟨rfl, agree_need (mk := laws_toStringS_mk) (t := laws_toStringS_tree a0) (by unfold Agree; kernel_rfl)⟩
  · cases h
def laws_toStringS_c : Con := fun args => laws_toStringS_c0 (norms 0 [.slc .str] args)
set_option maxRecDepth 100000 in
theorem laws_toStringS_ok : FunOK Tryd.prog 40 laws_toStringS_c.fn := con_norm [.slc .str] laws_toStringS_ok0

/-- a loop of spec_l08Journal -/
def spec_l08Journal_loop0_step (p : List (List UInt8)) (s : (List UInt8) × Int × Int) : Round ((List UInt8) × Int × Int) ((List UInt8)) :=
  let x0 := ((List.length p : Nat) : Int);
  let x1 := decide (s.2.2 < x0);
  .ask x1
  (
   .need ((decide (0 ≤ s.2.2) && decide (s.2.2 < ((List.length p : Nat) : Int)))) (
   let x2 := List.getD p (Int.toNat s.2.2) default;
   .need ((spec_l01Check_need s.2.1 x2)) (
   let x3 := spec_l01Check s.2.1 x2;
   .need ((spec_l01Dec_need x3)) (
   let x4 := spec_l01Dec x3;
   .need ((decide (List.length x4 + List.length [32] ≤ 9223372036854775807))) (
   let x5 := x4 ++ [32];
   .need ((decide (0 ≤ s.2.2) && decide (s.2.2 < ((List.length p : Nat) : Int)))) (
   let x6 := List.getD p (Int.toNat s.2.2) default;
   .need ((decide (List.length x5 + List.length x6 ≤ 9223372036854775807))) (
   let x7 := x5 ++ x6;
   .need ((decide (List.length x7 + List.length [10] ≤ 9223372036854775807))) (
   let x8 := x7 ++ [10];
   .need ((decide (List.length s.1 + List.length x8 ≤ 9223372036854775807))) (
   let x9 := s.1 ++ x8;
   let x10 := IntKind.wrap .i64 (s.2.2 + 1);
   .leaf (.inl (x9, x3, x10), []))))))))))
  (
   .leaf (.inr s.1, []))
def spec_l08Journal_loop0_L (p : List (List UInt8)) : LoopS ((List UInt8) × Int × Int) ((List UInt8)) := { tl := fun s => [.vslc 1 .str p, .junk, .junk, .str s.1, .int .i64 s.2.1, .int .i64 s.2.2], hl := fun s => [], ex := fun r => .exit 0, otl := fun r => [.junk, .junk, .junk, .str r], ohl := fun r => [] }
def spec_l08Journal_loop0_ext : St → Option ((List (List UInt8)) × ((List UInt8) × Int × Int) × List Nat) := fun S => match (S.tm 0).unK, (S.tm 3).unK, (S.tm 4).unK, (S.tm 5).unK with
  | .vslc 1 .str q0, .str q1, .int .i64 q2, .int .i64 q3 => some (q0, (q1, q2, q3), [])
  | _, _, _, _ => none
def spec_l08Journal_loop0_post (p : List (List UInt8)) (r : (List UInt8)) : DT (Ex × St) := .leaf (.exit 0, LSt [.junk, .junk, .junk, .str r] [])
def spec_l08Journal_loop0 (p : List (List UInt8)) (s : (List UInt8) × Int × Int) : (List UInt8) := loopVal (spec_l08Journal_loop0_step p) s
def spec_l08Journal_loop0_ends (p : List (List UInt8)) (s : (List UInt8) × Int × Int) : Bool := loopEnds (spec_l08Journal_loop0_step p) s
def spec_l08Journal_loop0_F : LoopF := loopF spec_l08Journal_loop0_step spec_l08Journal_loop0_ext spec_l08Journal_loop0_post
theorem spec_l08Journal_loop0_hext : ∀ S p s fl, spec_l08Journal_loop0_ext S = some (p, s, fl) → Norm S fl ((spec_l08Journal_loop0_L p).tl s) ((spec_l08Journal_loop0_L p).hl s) (spec_l08Journal_loop0_L p).gl := by
  intro S p s fl h
  unfold spec_l08Journal_loop0_ext at h
  (repeat' split at h) <;> first
    | (cases h; constructor <;> simp_all [spec_l08Journal_loop0_L, keepT, keepH, rens, renH, PV.ren, Blk.ren, fOf, lget, nodup, natIn, lenEq, gtm, PV.unK])
    | cases h
theorem spec_l08Journal_loop0_hpost : ∀ p r e S', (spec_l08Journal_loop0_post p r).get = some (e, S') → e = (spec_l08Journal_loop0_L p).ex r ∧ S' = LSt ((spec_l08Journal_loop0_L p).otl r) ((spec_l08Journal_loop0_L p).ohl r) ((spec_l08Journal_loop0_L p).ogl r) := by
  intro p r e S' h
  unfold spec_l08Journal_loop0_post at h
  simp only [DT.get, Option.some.injEq, Prod.mk.injEq] at h; exact ⟨h.1.symm, h.2.symm⟩

def spec_l08Journal_loops : Nat → Option LoopF := loopTab [(4, spec_l08Journal_loop0_F)]
set_option maxRecDepth 100000 in
theorem spec_l08Journal_l0 : LoopOK Tryd.prog ⟨gam [(116, spec_l01Check_c), (117, spec_l01Dec_c)], tab, 30, spec_l08Journal_loops⟩ (lp Tryd.f79 0) :=
  loopOK_some (F := spec_l08Journal_loop0_F) (by kernel_rfl) (loopF_ok (E := ⟨gam [(116, spec_l01Check_c), (117, spec_l01Dec_c)], tab, 30, spec_l08Journal_loops⟩) ⟨gam_cons spec_l01Check_ok (gam_cons spec_l01Dec_ok (gam_nil)), tab_ok, by kernel_rfl⟩ (fuel := 100000) (loopsOK_list (l := []) (by kernel_rfl) trivial) (L := spec_l08Journal_loop0_L) (fun p s => by unfold AgreeL; exact ⟨by kernel_rfl, by kernel_rfl⟩) (fun _ _ h => Ex.noConfusion h) spec_l08Journal_loop0_hext spec_l08Journal_loop0_hpost)
/-- loop.example/g01284/spec.l08Journal -/
def spec_l08Journal_tree (a0 : List (List UInt8)) : DT ((List UInt8)) :=
  .need ((spec_l08Journal_loop0_ends a0 ([], 0, 0))) (
  let x0 := spec_l08Journal_loop0 a0 ([], 0, 0);
  .leaf x0)
def spec_l08Journal (a0 : List (List UInt8)) : (List UInt8) := (spec_l08Journal_tree a0).val
def spec_l08Journal_need (a0 : List (List UInt8)) : Bool := (spec_l08Journal_tree a0).ok
def spec_l08Journal_mk (p : (List UInt8)) : Ret := ⟨.str p, []⟩
def spec_l08Journal_c0 : Con := fun args => match args with
  | [.vslc 1 .str a0] => some (.need (spec_l08Journal_need a0) (.leaf (spec_l08Journal_mk (spec_l08Journal a0))))
  | _ => none
set_option maxRecDepth 100000 in
theorem spec_l08Journal_ok0 : FunOK Tryd.prog 79 spec_l08Journal_c0.fn := by
  refine con_ok (Γ := gam [(116, spec_l01Check_c), (117, spec_l01Dec_c)]) (gam_cons spec_l01Check_ok (gam_cons spec_l01Dec_ok (gam_nil))) tab_ok (by kernel_rfl) Tryd.func79 (by kernel_rfl) (by kernel_rfl) Tryd.ntmps79 Tryd.results79 (loops := spec_l08Journal_loops) (loopsOK_list (l := [lp Tryd.f79 0]) (by kernel_rfl) ⟨spec_l08Journal_l0, trivial⟩) 100000 fun args t h => ?_
  unfold spec_l08Journal_c0 at h
  split at h
  · rename_i a0
    cases h
    exact ⟨rfl, agree_need (mk := spec_l08Journal_mk) (t := spec_l08Journal_tree a0) (by unfold Agree; kernel_rfl)⟩
  · cases h
def spec_l08Journal_c : Con := fun args => spec_l08Journal_c0 (norms 0 [.slc .str] args)
set_option maxRecDepth 100000 in
theorem spec_l08Journal_ok : FunOK Tryd.prog 79 spec_l08Journal_c.fn := con_norm [.slc .str] spec_l08Journal_ok0

/-- a loop of spec_JournalOf -/
def spec_JournalOf_loop1_step (p : List (List UInt8) × Int × Int) (s : Int) : Round (Int) (((List UInt8)) ⊕ (Unit)) :=
  .need ((decide (0 ≤ p.2.2) && decide (p.2.2 < ((List.length p.1 : Nat) : Int)))) (
  let x0 := List.getD p.1 (Int.toNat p.2.2) default;
  let x1 := ((List.length x0 : Nat) : Int);
  let x2 := decide (s < x1);
  .ask x2
  (
   .need ((decide (0 ≤ p.2.2) && decide (p.2.2 < ((List.length p.1 : Nat) : Int)))) (
   let x3 := List.getD p.1 (Int.toNat p.2.2) default;
   .need ((decide (0 ≤ s) && decide (s < ((List.length x3 : Nat) : Int)))) (
   let x4 := ((List.getD (x3 : List UInt8) (Int.toNat s) 0).toNat : Int);
   let x5 := (x4 == 10);
   .ask x5
   (
    .leaf (.inr (.inl []), []))
   (
    let x6 := IntKind.wrap .i64 (s + 1);
    .leaf (.inl x6, [])))))
  (
   .leaf (.inr (.inr ()), [])))
def spec_JournalOf_loop1_L (p : List (List UInt8) × Int × Int) : LoopS (Int) (((List UInt8)) ⊕ (Unit)) := { tl := fun s => [.vslc 1 .str p.1, .junk, .junk, .junk, .int .i64 p.2.1, .int .i64 p.2.2, .int .i64 s], hl := fun s => [], ex := fun r => match r with | .inl r => .ret | .inr r => .exit 2, otl := fun r => match r with | .inl r => [.junk, .junk, .str r, .bool false] | .inr r => [.vslc 1 .str p.1, .junk, .junk, .junk, .int .i64 p.2.1, .int .i64 p.2.2], ohl := fun r => match r with | .inl r => [] | .inr r => [] }
def spec_JournalOf_loop1_ext : St → Option ((List (List UInt8) × Int × Int) × (Int) × List Nat) := fun S => match (S.tm 0).unK, (S.tm 4).unK, (S.tm 5).unK, (S.tm 6).unK with
  | .vslc 1 .str q0, .int .i64 q1, .int .i64 q2, .int .i64 q3 => some ((q0, q1, q2), q3, [])
  | _, _, _, _ => none
def spec_JournalOf_loop1_post (p : List (List UInt8) × Int × Int) (r : ((List UInt8)) ⊕ (Unit)) : DT (Ex × St) := .ask (isL r) (.leaf (.ret, LSt [.junk, .junk, .str ((leftD r)), .bool false] [])) (.leaf (.exit 2, LSt [.vslc 1 .str p.1, .junk, .junk, .junk, .int .i64 p.2.1, .int .i64 p.2.2] []))
def spec_JournalOf_loop1 (p : List (List UInt8) × Int × Int) (s : Int) : ((List UInt8)) ⊕ (Unit) := loopVal (spec_JournalOf_loop1_step p) s
def spec_JournalOf_loop1_ends (p : List (List UInt8) × Int × Int) (s : Int) : Bool := loopEnds (spec_JournalOf_loop1_step p) s
def spec_JournalOf_loop1_F : LoopF := loopF spec_JournalOf_loop1_step spec_JournalOf_loop1_ext spec_JournalOf_loop1_post
theorem spec_JournalOf_loop1_hext : ∀ S p s fl, spec_JournalOf_loop1_ext S = some (p, s, fl) → Norm S fl ((spec_JournalOf_loop1_L p).tl s) ((spec_JournalOf_loop1_L p).hl s) (spec_JournalOf_loop1_L p).gl := by
  intro S p s fl h
  unfold spec_JournalOf_loop1_ext at h
  (repeat' split at h) <;> first
    | (cases h; constructor <;> simp_all [spec_JournalOf_loop1_L, keepT, keepH, rens, renH, PV.ren, Blk.ren, fOf, lget, nodup, natIn, lenEq, gtm, PV.unK])
    | cases h
theorem spec_JournalOf_loop1_hpost : ∀ p r e S', (spec_JournalOf_loop1_post p r).get = some (e, S') → e = (spec_JournalOf_loop1_L p).ex r ∧ S' = LSt ((spec_JournalOf_loop1_L p).otl r) ((spec_JournalOf_loop1_L p).ohl r) ((spec_JournalOf_loop1_L p).ogl r) := by
  intro p r e S' h
  unfold spec_JournalOf_loop1_post at h
  cases r <;> (simp only [isL, DT.get, Option.some.injEq, Prod.mk.injEq] at h; exact ⟨h.1.symm, h.2.symm⟩)

/-- a loop of spec_JournalOf -/
def spec_JournalOf_loop0_step (p : List (List UInt8)) (s : Int × Int) : Round (Int × Int) (((List UInt8)) ⊕ (Unit)) :=
  let x0 := ((List.length p : Nat) : Int);
  let x1 := decide (s.2 < x0);
  .ask x1
  (
   .need ((decide (0 ≤ s.2) && decide (s.2 < ((List.length p : Nat) : Int)))) (
   let x2 := List.getD p (Int.toNat s.2) default;
   let x3 := ((List.length x2 : Nat) : Int);
   let x4 := IntKind.wrap .i64 (x3 + 3);
   let x5 := IntKind.wrap .i64 (s.1 + x4);
   let x6 := decide (x5 > 16000);
   .ask x6
   (
    .leaf (.inr (.inl []), []))
   (
    .need ((spec_JournalOf_loop1_ends (p, x5, s.2) 0)) (
    let x7 := spec_JournalOf_loop1 (p, x5, s.2) 0;
    .ask ((isL x7))
    (
     .leaf (.inr (.inl (((leftD x7)))), []))
    (
     let x8 := IntKind.wrap .i64 (s.2 + 1);
     .leaf (.inl (x5, x8), []))))))
  (
   .leaf (.inr (.inr ()), []))
def spec_JournalOf_loop0_L (p : List (List UInt8)) : LoopS (Int × Int) (((List UInt8)) ⊕ (Unit)) := { tl := fun s => [.vslc 1 .str p, .junk, .junk, .junk, .int .i64 s.1, .int .i64 s.2], hl := fun s => [], ex := fun r => match r with | .inl r => .ret | .inr r => .exit 0, otl := fun r => match r with | .inl r => [.junk, .junk, .str r, .bool false] | .inr r => [.vslc 1 .str p], ohl := fun r => match r with | .inl r => [] | .inr r => [] }
def spec_JournalOf_loop0_ext : St → Option ((List (List UInt8)) × (Int × Int) × List Nat) := fun S => match (S.tm 0).unK, (S.tm 4).unK, (S.tm 5).unK with
  | .vslc 1 .str q0, .int .i64 q1, .int .i64 q2 => some (q0, (q1, q2), [])
  | _, _, _ => none
def spec_JournalOf_loop0_post (p : List (List UInt8)) (r : ((List UInt8)) ⊕ (Unit)) : DT (Ex × St) := .ask (isL r) (.leaf (.ret, LSt [.junk, .junk, .str ((leftD r)), .bool false] [])) (.leaf (.exit 0, LSt [.vslc 1 .str p] []))
def spec_JournalOf_loop0 (p : List (List UInt8)) (s : Int × Int) : ((List UInt8)) ⊕ (Unit) := loopVal (spec_JournalOf_loop0_step p) s
def spec_JournalOf_loop0_ends (p : List (List UInt8)) (s : Int × Int) : Bool := loopEnds (spec_JournalOf_loop0_step p) s
def spec_JournalOf_loop0_F : LoopF := loopF spec_JournalOf_loop0_step spec_JournalOf_loop0_ext spec_JournalOf_loop0_post
theorem spec_JournalOf_loop0_hext : ∀ S p s fl, spec_JournalOf_loop0_ext S = some (p, s, fl) → Norm S fl ((spec_JournalOf_loop0_L p).tl s) ((spec_JournalOf_loop0_L p).hl s) (spec_JournalOf_loop0_L p).gl := by
  intro S p s fl h
  unfold spec_JournalOf_loop0_ext at h
  (repeat' split at h) <;> first
    | (cases h; constructor <;> simp_all [spec_JournalOf_loop0_L, keepT, keepH, rens, renH, PV.ren, Blk.ren, fOf, lget, nodup, natIn, lenEq, gtm, PV.unK])
    | cases h
theorem spec_JournalOf_loop0_hpost : ∀ p r e S', (spec_JournalOf_loop0_post p r).get = some (e, S') → e = (spec_JournalOf_loop0_L p).ex r ∧ S' = LSt ((spec_JournalOf_loop0_L p).otl r) ((spec_JournalOf_loop0_L p).ohl r) ((spec_JournalOf_loop0_L p).ogl r) := by
  intro p r e S' h
  unfold spec_JournalOf_loop0_post at h
  cases r <;> (simp only [isL, DT.get, Option.some.injEq, Prod.mk.injEq] at h; exact ⟨h.1.symm, h.2.symm⟩)

def spec_JournalOf_loops : Nat → Option LoopF := loopTab [(9, spec_JournalOf_loop1_F), (3, spec_JournalOf_loop0_F)]
set_option maxRecDepth 100000 in
theorem spec_JournalOf_l1 : LoopOK Tryd.prog ⟨gam [(79, spec_l08Journal_c)], tab, 46, spec_JournalOf_loops⟩ (lp Tryd.f39 1) :=
  loopOK_some (F := spec_JournalOf_loop1_F) (by kernel_rfl) (loopF_ok (E := ⟨gam [(79, spec_l08Journal_c)], tab, 46, spec_JournalOf_loops⟩) ⟨gam_cons spec_l08Journal_ok (gam_nil), tab_ok, by kernel_rfl⟩ (fuel := 100000) (loopsOK_list (l := []) (by kernel_rfl) trivial) (L := spec_JournalOf_loop1_L) (fun p s => by unfold AgreeL; exact ⟨by kernel_rfl, by kernel_rfl⟩) (fun _ r h => by cases r <;> exact Ex.noConfusion h) spec_JournalOf_loop1_hext spec_JournalOf_loop1_hpost)
set_option maxRecDepth 100000 in
theorem spec_JournalOf_l0 : LoopOK Tryd.prog ⟨gam [(79, spec_l08Journal_c)], tab, 46, spec_JournalOf_loops⟩ (lp Tryd.f39 0) :=
  loopOK_some (F := spec_JournalOf_loop0_F) (by kernel_rfl) (loopF_ok (E := ⟨gam [(79, spec_l08Journal_c)], tab, 46, spec_JournalOf_loops⟩) ⟨gam_cons spec_l08Journal_ok (gam_nil), tab_ok, by kernel_rfl⟩ (fuel := 100000) (loopsOK_list (l := [lp Tryd.f39 1]) (by kernel_rfl) ⟨spec_JournalOf_l1, trivial⟩) (L := spec_JournalOf_loop0_L) (fun p s => by unfold AgreeL; exact ⟨by kernel_rfl, by kernel_rfl⟩) (fun _ r h => by cases r <;> exact Ex.noConfusion h) spec_JournalOf_loop0_hext spec_JournalOf_loop0_hpost)
/-- loop.example/g01284/spec.JournalOf -/
def spec_JournalOf_tree (a0 : List (List UInt8)) : DT ((List UInt8) × Bool) :=
  .need ((spec_JournalOf_loop0_ends a0 (0, 0))) (
  let x0 := spec_JournalOf_loop0 a0 (0, 0);
  .ask ((isL x0))
  (
   .leaf ((leftD x0), false))
  (
   .need ((spec_l08Journal_need a0)) (
   let x1 := spec_l08Journal a0;
   let x2 := ((List.length x1 : Nat) : Int);
   let x3 := decide (x2 > 16000);
   .ask x3
   (
    .leaf ([], false))
   (
    .leaf (x1, true)))))
def spec_JournalOf (a0 : List (List UInt8)) : (List UInt8) × Bool := (spec_JournalOf_tree a0).val
def spec_JournalOf_need (a0 : List (List UInt8)) : Bool := (spec_JournalOf_tree a0).ok
def spec_JournalOf_mk (p : (List UInt8) × Bool) : Ret := ⟨.tup [.str p.1, .bool p.2], []⟩
def spec_JournalOf_c0 : Con := fun args => match args with
  | [.vslc 1 .str a0] => some (.need (spec_JournalOf_need a0) (.leaf (spec_JournalOf_mk (spec_JournalOf a0))))
  | _ => none
set_option maxRecDepth 100000 in
theorem spec_JournalOf_ok0 : FunOK Tryd.prog 39 spec_JournalOf_c0.fn := by
  refine con_ok (Γ := gam [(79, spec_l08Journal_c)]) (gam_cons spec_l08Journal_ok (gam_nil)) tab_ok (by kernel_rfl) Tryd.func39 (by kernel_rfl) (by kernel_rfl) Tryd.ntmps39 Tryd.results39 (loops := spec_JournalOf_loops) (loopsOK_list (l := [lp Tryd.f39 0, lp Tryd.f39 1]) (by kernel_rfl) ⟨spec_JournalOf_l0, ⟨spec_JournalOf_l1, trivial⟩⟩) 100000 fun args t h => ?_
  unfold spec_JournalOf_c0 at h
  split at h
  · rename_i a0
    cases h
    exact ⟨rfl, agree_need (mk := spec_JournalOf_mk) (t := spec_JournalOf_tree a0) (by unfold Agree; kernel_rfl)⟩
  · cases h
def spec_JournalOf_c : Con := fun args => spec_JournalOf_c0 (norms 0 [.slc .str] args)
set_option maxRecDepth 100000 in
theorem spec_JournalOf_ok : FunOK Tryd.prog 39 spec_JournalOf_c.fn := con_norm [.slc .str] spec_JournalOf_ok0

/-- a loop of laws_eqStringS -/
def laws_eqStringS_loop0_step (p : List (List UInt8) × List (List UInt8)) (s : Int) : Round (Int) ((Unit) ⊕ (Unit)) :=
  let x0 := ((List.length p.1 : Nat) : Int);
  let x1 := decide (s < x0);
  .ask x1
  (
   .need ((decide (0 ≤ s) && decide (s < ((List.length p.1 : Nat) : Int)))) (
   let x2 := List.getD p.1 (Int.toNat s) default;
   .need ((decide (0 ≤ s) && decide (s < ((List.length p.2 : Nat) : Int)))) (
   let x3 := List.getD p.2 (Int.toNat s) default;
   let x4 := (!(x2 == x3));
   .ask x4
   (
    .leaf (.inr (.inl ()), []))
   (
    let x5 := IntKind.wrap .i64 (s + 1);
    .leaf (.inl x5, [])))))
  (
   .leaf (.inr (.inr ()), []))
def laws_eqStringS_loop0_L (p : List (List UInt8) × List (List UInt8)) : LoopS (Int) ((Unit) ⊕ (Unit)) := { tl := fun s => [.vslc 1 .str p.1, .vslc 2 .str p.2, .junk, .junk, .junk, .int .i64 s], hl := fun s => [], ex := fun r => match r with | .inl r => .ret | .inr r => .exit 0, otl := fun r => match r with | .inl r => [.junk, .junk, .junk, .junk, .bool false] | .inr r => [.junk], ohl := fun r => match r with | .inl r => [] | .inr r => [] }
def laws_eqStringS_loop0_ext : St → Option ((List (List UInt8) × List (List UInt8)) × (Int) × List Nat) := fun S => match (S.tm 0).unK, (S.tm 1).unK, (S.tm 5).unK with
  | .vslc 1 .str q0, .vslc 2 .str q1, .int .i64 q2 => some ((q0, q1), q2, [])
  | _, _, _ => none
def laws_eqStringS_loop0_post (p : List (List UInt8) × List (List UInt8)) (r : (Unit) ⊕ (Unit)) : DT (Ex × St) := .ask (isL r) (.leaf (.ret, LSt [.junk, .junk, .junk, .junk, .bool false] [])) (.leaf (.exit 0, LSt [.junk] []))
def laws_eqStringS_loop0 (p : List (List UInt8) × List (List UInt8)) (s : Int) : (Unit) ⊕ (Unit) := loopVal (laws_eqStringS_loop0_step p) s
def laws_eqStringS_loop0_ends (p : List (List UInt8) × List (List UInt8)) (s : Int) : Bool := loopEnds (laws_eqStringS_loop0_step p) s
def laws_eqStringS_loop0_F : LoopF := loopF laws_eqStringS_loop0_step laws_eqStringS_loop0_ext laws_eqStringS_loop0_post
theorem laws_eqStringS_loop0_hext : ∀ S p s fl, laws_eqStringS_loop0_ext S = some (p, s, fl) → Norm S fl ((laws_eqStringS_loop0_L p).tl s) ((laws_eqStringS_loop0_L p).hl s) (laws_eqStringS_loop0_L p).gl := by
  intro S p s fl h
  unfold laws_eqStringS_loop0_ext at h
  (repeat' split at h) <;> first
    | (cases h; constructor <;> simp_all [laws_eqStringS_loop0_L, keepT, keepH, rens, renH, PV.ren, Blk.ren, fOf, lget, nodup, natIn, lenEq, gtm, PV.unK])
    | cases h
theorem laws_eqStringS_loop0_hpost : ∀ p r e S', (laws_eqStringS_loop0_post p r).get = some (e, S') → e = (laws_eqStringS_loop0_L p).ex r ∧ S' = LSt ((laws_eqStringS_loop0_L p).otl r) ((laws_eqStringS_loop0_L p).ohl r) ((laws_eqStringS_loop0_L p).ogl r) := by
  intro p r e S' h
  unfold laws_eqStringS_loop0_post at h
  cases r <;> (simp only [isL, DT.get, Option.some.injEq, Prod.mk.injEq] at h; exact ⟨h.1.symm, h.2.symm⟩)

def laws_eqStringS_loops : Nat → Option LoopF := loopTab [(4, laws_eqStringS_loop0_F)]
set_option maxRecDepth 100000 in
theorem laws_eqStringS_l0 : LoopOK Tryd.prog ⟨gam [], tab, 26, laws_eqStringS_loops⟩ (lp Tryd.f42 0) :=
  loopOK_some (F := laws_eqStringS_loop0_F) (by kernel_rfl) (loopF_ok (E := ⟨gam [], tab, 26, laws_eqStringS_loops⟩) ⟨gam_nil, tab_ok, by kernel_rfl⟩ (fuel := 100000) (loopsOK_list (l := []) (by kernel_rfl) trivial) (L := laws_eqStringS_loop0_L) (fun p s => by unfold AgreeL; exact ⟨by kernel_rfl, by kernel_rfl⟩) (fun _ r h => by cases r <;> exact Ex.noConfusion h) laws_eqStringS_loop0_hext laws_eqStringS_loop0_hpost)
/-- loop.example/g01284/laws.eqStringS -/
def laws_eqStringS_tree (a0 : List (List UInt8)) (a1 : List (List UInt8)) : DT (Bool) :=
  let x0 := ((List.length a0 : Nat) : Int);
  let x1 := ((List.length a1 : Nat) : Int);
  let x2 := (x0 != x1);
  .ask x2
  (
   .leaf false)
  (
   .need ((laws_eqStringS_loop0_ends (a0, a1) 0)) (
   let x3 := laws_eqStringS_loop0 (a0, a1) 0;
   .ask ((isL x3))
   (
    .leaf false)
   (
    .leaf true)))
def laws_eqStringS (a0 : List (List UInt8)) (a1 : List (List UInt8)) : Bool := (laws_eqStringS_tree a0 a1).val
def laws_eqStringS_need (a0 : List (List UInt8)) (a1 : List (List UInt8)) : Bool := (laws_eqStringS_tree a0 a1).ok
def laws_eqStringS_mk (p : Bool) : Ret := ⟨.bool p, []⟩
def laws_eqStringS_c0 : Con := fun args => match args with
  | [.vslc 1 .str a0, .vslc 2 .str a1] => some (.need (laws_eqStringS_need a0 a1) (.leaf (laws_eqStringS_mk (laws_eqStringS a0 a1))))
  | _ => none
set_option maxRecDepth 100000 in
theorem laws_eqStringS_ok0 : FunOK Tryd.prog 42 laws_eqStringS_c0.fn := by
  refine con_ok (Γ := gam []) (gam_nil) tab_ok (by kernel_rfl) Tryd.func42 (by kernel_rfl) (by kernel_rfl) Tryd.ntmps42 Tryd.results42 (loops := laws_eqStringS_loops) (loopsOK_list (l := [lp Tryd.f42 0]) (by kernel_rfl) ⟨laws_eqStringS_l0, trivial⟩) 100000 fun args t h => ?_
  unfold laws_eqStringS_c0 at h
  split at h
  · rename_i a0 a1
    cases h
    exact ⟨rfl, agree_need (mk := laws_eqStringS_mk) (t := laws_eqStringS_tree a0 a1) (by unfold Agree; kernel_rfl)⟩
  · cases h
def laws_eqStringS_c : Con := fun args => laws_eqStringS_c0 (norms 0 [.slc .str, .slc .str] args)
set_option maxRecDepth 100000 in
theorem laws_eqStringS_ok : FunOK Tryd.prog 42 laws_eqStringS_c.fn := con_norm [.slc .str, .slc .str] laws_eqStringS_ok0

/-- loop.example/g01284/laws.FnExactJournalOf -/
def laws_FnExactJournalOf_tree (a0 : List (List UInt8)) : DT (Bool) :=
  .need ((laws_szStringS_need a0 1048576)) (
  let x0 := laws_szStringS a0 1048576;
  let x1 := decide (x0 < 0);
  .ask x1
  (
   .leaf true)
  (
   .need ((laws_toStringS_need a0)) (
   let x2 := laws_toStringS a0;
   .need ((spec_JournalOf_need x2)) (
   let x3 := spec_JournalOf x2;
   .need ((laws_toStringS_need a0)) (
   let x4 := laws_toStringS a0;
   .need ((decide (List.length x4 ≤ 1099511627776) && List.all x4 shortL)) (
   let x5 := jrun x4 0 [];
   let x6 := (!(x5.1 == x3.1));
   .ask x6
   (
    .leaf false)
   (
    let x7 := (!(x5.2 == x3.2));
    .ask x7
    (
     .leaf false)
    (
     .need ((laws_toStringS_need a0)) (
     let x8 := laws_toStringS a0;
     .need ((laws_eqStringS_need x4 x8)) (
     let x9 := laws_eqStringS x4 x8;
     .ask (!x9)
     (
      .leaf false)
     (
      .leaf true)))))))))))
def laws_FnExactJournalOf (a0 : List (List UInt8)) : Bool := (laws_FnExactJournalOf_tree a0).val
def laws_FnExactJournalOf_need (a0 : List (List UInt8)) : Bool := (laws_FnExactJournalOf_tree a0).ok
def laws_FnExactJournalOf_mk (p : Bool) : Ret := ⟨.bool p, []⟩
def laws_FnExactJournalOf_c0 : Con := fun args => match args with
  | [.vslc 1 .str a0] => some (.need (laws_FnExactJournalOf_need a0) (.leaf (laws_FnExactJournalOf_mk (laws_FnExactJournalOf a0))))
  | _ => none
set_option maxRecDepth 100000 in
theorem laws_FnExactJournalOf_ok0 : FunOK Tryd.prog 10 laws_FnExactJournalOf_c0.fn := by
  refine con_ok (Γ := gam [(38, laws_szStringS_c), (40, laws_toStringS_c), (39, spec_JournalOf_c), (41, impl_JournalOf_c), (42, laws_eqStringS_c)]) (gam_cons laws_szStringS_ok (gam_cons laws_toStringS_ok (gam_cons spec_JournalOf_ok (gam_cons impl_JournalOf_ok (gam_cons laws_eqStringS_ok (gam_nil)))))) tab_ok (by kernel_rfl) Tryd.func10 (by kernel_rfl) (by kernel_rfl) Tryd.ntmps10 Tryd.results10 (loopsOK_none rfl _) 100000 fun args t h => ?_
  unfold laws_FnExactJournalOf_c0 at h
  split at h
  · rename_i a0
    cases h
    exact ⟨rfl, agree_need (mk := laws_FnExactJournalOf_mk) (t := laws_FnExactJournalOf_tree a0) (by unfold Agree; kernel_rfl)⟩
  · cases h
def laws_FnExactJournalOf_c : Con := fun args => laws_FnExactJournalOf_c0 (norms 0 [.slc .str] args)
set_option maxRecDepth 100000 in
theorem laws_FnExactJournalOf_ok : FunOK Tryd.prog 10 laws_FnExactJournalOf_c.fn := con_norm [.slc .str] laws_FnExactJournalOf_ok0

end
end Go.Proofs.YtcipkfndnkmjlaaDoor
