/- THE WALK, BY A PROGRAM: typed functions, and that the code is they. -/
import Derived.Test.YtcipkfndnkmjlaaGreatDoorGR
namespace Go.Proofs.YtcipkfndnkmjlaaGreatDoor
set_option linter.unusedVariables false
set_option linter.unusedSimpArgs false
open Go.Extern
noncomputable section

/-- loop.example/g01284/spec.l08From -/
def spec_l08From_tree (a0 : List Nat) : DT (Orbit) :=
  .need ((decide (0 ≤ 0) && decide (0 < ((List.length a0 : Nat) : Int)))) (
  let x0 := List.getD a0 0 default;
  .need ((decide (0 ≤ 1) && decide (1 < ((List.length a0 : Nat) : Int)))) (
  let x1 := List.getD a0 1 default;
  .need ((decide (0 ≤ 2) && decide (2 < ((List.length a0 : Nat) : Int)))) (
  let x2 := List.getD a0 2 default;
  .need ((decide (0 ≤ 3) && decide (3 < ((List.length a0 : Nat) : Int)))) (
  let x3 := List.getD a0 3 default;
  .need ((decide (0 ≤ 4) && decide (4 < ((List.length a0 : Nat) : Int)))) (
  let x4 := List.getD a0 4 default;
  .need ((decide (0 ≤ 5) && decide (5 < ((List.length a0 : Nat) : Int)))) (
  let x5 := List.getD a0 5 default;
  .leaf ((⟨x0, x1, x2, x3, x4, x5⟩ : Orbit))))))))
def spec_l08From (a0 : List Nat) : Orbit := (spec_l08From_tree a0).val
def spec_l08From_need (a0 : List Nat) : Bool := (spec_l08From_tree a0).ok
def spec_l08From_mk (p : Orbit) : Ret := ⟨.agg [.flt .f32 p.Long, .flt .f32 p.Round, .flt .f32 p.Tilt, .flt .f32 p.Node, .flt .f32 p.Peri, .flt .f32 p.Phase], []⟩
def spec_l08From_c0 : Con := fun args => match args with
  | [.vslc 1 (.flt .f32) a0] => some (.need (spec_l08From_need a0) (.leaf (spec_l08From_mk (spec_l08From a0))))
  | _ => none
set_option maxRecDepth 100000 in
theorem spec_l08From_ok0 : FunOK Tryz.prog 38 spec_l08From_c0.fn := by
  refine con_ok (Γ := gam []) (gam_nil) tab_ok (by kernel_rfl) Tryz.func38 (by kernel_rfl) (by kernel_rfl) Tryz.ntmps38 Tryz.results38 (loopsOK_none rfl _) 100000 fun args t h => ?_
  unfold spec_l08From_c0 at h
  split at h
  · rename_i a0
    cases h
    exact ⟨rfl, agree_need (mk := spec_l08From_mk) (t := spec_l08From_tree a0) (by unfold Agree; kernel_rfl)⟩
  · cases h
def spec_l08From_c : Con := fun args => spec_l08From_c0 (norms 0 [.slc (.flt .f32)] args)
set_option maxRecDepth 100000 in
theorem spec_l08From_ok : FunOK Tryz.prog 38 spec_l08From_c.fn := con_norm [.slc (.flt .f32)] spec_l08From_ok0

/-- a loop of spec_l07Name -/
def spec_l07Name_loop0_step (p : (List UInt8)) (s : Int) : Round (Int) ((Unit) ⊕ (Unit)) :=
  let x0 := ((List.length p : Nat) : Int);
  let x1 := decide (s < x0);
  .ask x1
  (
   .need ((decide (0 ≤ s) && decide (s < ((List.length p : Nat) : Int)))) (
   let x2 := ((List.getD (p : List UInt8) (Int.toNat s) 0).toNat : Int);
   let x3 := decide (x2 < 97);
   .ask x3
   (
    .leaf (.inr (.inl ()), []))
   (
    .need ((decide (0 ≤ s) && decide (s < ((List.length p : Nat) : Int)))) (
    let x4 := ((List.getD (p : List UInt8) (Int.toNat s) 0).toNat : Int);
    let x5 := decide (x4 > 122);
    .ask x5
    (
     .leaf (.inr (.inl ()), []))
    (
     let x6 := IntKind.wrap .i64 (s + 1);
     .leaf (.inl x6, []))))))
  (
   .leaf (.inr (.inr ()), []))
def spec_l07Name_loop0_L (p : (List UInt8)) : LoopS (Int) ((Unit) ⊕ (Unit)) := { tl := fun s => [.str p, .junk, .junk, .int .i64 s], hl := fun s => [], ex := fun r => match r with | .inl r => .ret | .inr r => .exit 0, otl := fun r => match r with | .inl r => [.junk, .junk, .bool false] | .inr r => [.str p], ohl := fun r => match r with | .inl r => [] | .inr r => [] }
def spec_l07Name_loop0_ext : St → Option (((List UInt8)) × (Int) × List Nat) := fun S => match (S.tm 0).unK, (S.tm 3).unK with
  | .str q0, .int .i64 q1 => some (q0, q1, [])
  | _, _ => none
def spec_l07Name_loop0_post (p : (List UInt8)) (r : (Unit) ⊕ (Unit)) : DT (Ex × St) := .ask (isL r) (.leaf (.ret, LSt [.junk, .junk, .bool false] [])) (.leaf (.exit 0, LSt [.str p] []))
def spec_l07Name_loop0 (p : (List UInt8)) (s : Int) : (Unit) ⊕ (Unit) := loopVal (spec_l07Name_loop0_step p) s
def spec_l07Name_loop0_ends (p : (List UInt8)) (s : Int) : Bool := loopEnds (spec_l07Name_loop0_step p) s
def spec_l07Name_loop0_F : LoopF := loopF spec_l07Name_loop0_step spec_l07Name_loop0_ext spec_l07Name_loop0_post
theorem spec_l07Name_loop0_hext : ∀ S p s fl, spec_l07Name_loop0_ext S = some (p, s, fl) → Norm S fl ((spec_l07Name_loop0_L p).tl s) ((spec_l07Name_loop0_L p).hl s) (spec_l07Name_loop0_L p).gl := by
  intro S p s fl h
  unfold spec_l07Name_loop0_ext at h
  (repeat' split at h) <;> first
    | (cases h; constructor <;> simp_all [spec_l07Name_loop0_L, keepT, keepH, rens, renH, PV.ren, Blk.ren, fOf, lget, nodup, natIn, lenEq, gtm, PV.unK])
    | cases h
theorem spec_l07Name_loop0_hpost : ∀ p r e S', (spec_l07Name_loop0_post p r).get = some (e, S') → e = (spec_l07Name_loop0_L p).ex r ∧ S' = LSt ((spec_l07Name_loop0_L p).otl r) ((spec_l07Name_loop0_L p).ohl r) ((spec_l07Name_loop0_L p).ogl r) := by
  intro p r e S' h
  unfold spec_l07Name_loop0_post at h
  cases r <;> (simp only [isL, DT.get, Option.some.injEq, Prod.mk.injEq] at h; exact ⟨h.1.symm, h.2.symm⟩)

def spec_l07Name_loops : Nat → Option LoopF := loopTab [(2, spec_l07Name_loop0_F)]
set_option maxRecDepth 100000 in
theorem spec_l07Name_l0 : LoopOK Tryz.prog ⟨gam [], tab, 28, spec_l07Name_loops⟩ (lp Tryz.f72 0) :=
  loopOK_some (F := spec_l07Name_loop0_F) (by kernel_rfl) (loopF_ok (E := ⟨gam [], tab, 28, spec_l07Name_loops⟩) ⟨gam_nil, tab_ok, by kernel_rfl⟩ (fuel := 100000) (loopsOK_list (l := []) (by kernel_rfl) trivial) (L := spec_l07Name_loop0_L) (fun p s => by unfold AgreeL; exact ⟨by kernel_rfl, by kernel_rfl⟩) (fun _ r h => by cases r <;> exact Ex.noConfusion h) spec_l07Name_loop0_hext spec_l07Name_loop0_hpost)
/-- loop.example/g01284/spec.l07Name -/
def spec_l07Name_tree (a0 : (List UInt8)) : DT (Bool) :=
  .need ((spec_l07Name_loop0_ends a0 0)) (
  let x0 := spec_l07Name_loop0 a0 0;
  .ask ((isL x0))
  (
   .leaf false)
  (
   let x1 := ((List.length a0 : Nat) : Int);
   let x2 := decide (x1 ≥ 1);
   .ask x2
   (
    let x3 := ((List.length a0 : Nat) : Int);
    let x4 := decide (x3 ≤ 8);
    .leaf x4)
   (
    .leaf false)))
def spec_l07Name (a0 : (List UInt8)) : Bool := (spec_l07Name_tree a0).val
def spec_l07Name_need (a0 : (List UInt8)) : Bool := (spec_l07Name_tree a0).ok
def spec_l07Name_mk (p : Bool) : Ret := ⟨.bool p, []⟩
def spec_l07Name_c : Con := fun args => match args with
  | [.str a0] => some (.need (spec_l07Name_need a0) (.leaf (spec_l07Name_mk (spec_l07Name a0))))
  | _ => none
set_option maxRecDepth 100000 in
theorem spec_l07Name_ok : FunOK Tryz.prog 72 spec_l07Name_c.fn := by
  refine con_ok (Γ := gam []) (gam_nil) tab_ok (by kernel_rfl) Tryz.func72 (by kernel_rfl) (by kernel_rfl) Tryz.ntmps72 Tryz.results72 (loops := spec_l07Name_loops) (loopsOK_list (l := [lp Tryz.f72 0]) (by kernel_rfl) ⟨spec_l07Name_l0, trivial⟩) 100000 fun args t h => ?_
  unfold spec_l07Name_c at h
  split at h
  · rename_i a0
    cases h
    exact ⟨rfl, agree_need (mk := spec_l07Name_mk) (t := spec_l07Name_tree a0) (by unfold Agree; kernel_rfl)⟩
  · cases h

/-- loop.example/g01284/spec.l02Above -/
def spec_l02Above_tree (a0 : Nat) : DT (Bool) :=
  let x0 := spec_l01Finite a0;
  .ask x0
  (
   let x1 := fgt .f32 a0 0;
   .leaf x1)
  (
   .leaf false)
def spec_l02Above (a0 : Nat) : Bool := (spec_l02Above_tree a0).val
def spec_l02Above_mk (p : Bool) : Ret := ⟨.bool p, []⟩
def spec_l02Above_c : Con := fun args => match args with
  | [.flt .f32 a0] => some (.leaf (spec_l02Above_mk (spec_l02Above a0)))
  | _ => none
set_option maxRecDepth 100000 in
theorem spec_l02Above_ok : FunOK Tryz.prog 73 spec_l02Above_c.fn := by
  refine con_ok (Γ := gam [(94, spec_l01Finite_c)]) (gam_cons spec_l01Finite_ok (gam_nil)) tab_ok (by kernel_rfl) Tryz.func73 (by kernel_rfl) (by kernel_rfl) Tryz.ntmps73 Tryz.results73 (loopsOK_none rfl _) 100000 fun args t h => ?_
  unfold spec_l02Above_c at h
  split at h
  · rename_i a0
    cases h
    exact ⟨rfl, agree_tot (mk := spec_l02Above_mk) (t := spec_l02Above_tree a0) (by unfold Agree; kernel_rfl) (by kernel_rfl)⟩
  · cases h

/-- loop.example/g01284/spec.l03Turn -/
def spec_l03Turn_tree (a0 : Nat) : DT (Bool) :=
  let x0 := fge .f32 a0 0;
  .ask x0
  (
   let x1 := flt .f32 a0 1065353216;
   .leaf x1)
  (
   .leaf false)
def spec_l03Turn (a0 : Nat) : Bool := (spec_l03Turn_tree a0).val
def spec_l03Turn_mk (p : Bool) : Ret := ⟨.bool p, []⟩
def spec_l03Turn_c : Con := fun args => match args with
  | [.flt .f32 a0] => some (.leaf (spec_l03Turn_mk (spec_l03Turn a0)))
  | _ => none
set_option maxRecDepth 100000 in
theorem spec_l03Turn_ok : FunOK Tryz.prog 95 spec_l03Turn_c.fn := by
  refine con_ok (Γ := gam []) (gam_nil) tab_ok (by kernel_rfl) Tryz.func95 (by kernel_rfl) (by kernel_rfl) Tryz.ntmps95 Tryz.results95 (loopsOK_none rfl _) 100000 fun args t h => ?_
  unfold spec_l03Turn_c at h
  split at h
  · rename_i a0
    cases h
    exact ⟨rfl, agree_tot (mk := spec_l03Turn_mk) (t := spec_l03Turn_tree a0) (by unfold Agree; kernel_rfl) (by kernel_rfl)⟩
  · cases h

/-- loop.example/g01284/spec.l03Is -/
def spec_l03Is_tree (a0 : Orbit) : DT (Bool) :=
  let x0 := spec_l01Finite a0.Long;
  .ask (!x0)
  (
   .leaf false)
  (
   let x1 := spec_l01Finite a0.Round;
   .ask (!x1)
   (
    .leaf false)
   (
    let x2 := fge .f32 a0.Tilt 0;
    .ask x2
    (
     let x3 := fle .f32 a0.Tilt 1056964608;
     .ask (!x3)
     (
      .leaf false)
     (
      let x4 := spec_l03Turn a0.Node;
      .ask (!x4)
      (
       .leaf false)
      (
       let x5 := spec_l03Turn a0.Peri;
       .ask (!x5)
       (
        .leaf false)
       (
        let x6 := fgt .f32 a0.Long 0;
        .ask x6
        (
         let x7 := fge .f32 a0.Round 0;
         .ask x7
         (
          let x8 := flt .f32 a0.Round 1065353216;
          .ask x8
          (
           let x9 := spec_l03Turn a0.Phase;
           .leaf x9)
          (
           .leaf false))
         (
          .leaf false))
        (
         let x7 := flt .f32 a0.Long 0;
         .ask x7
         (
          let x8 := fgt .f32 a0.Round 1065353216;
          .ask x8
          (
           let x9 := fge .f32 a0.Phase 3246391296;
           .ask x9
           (
            let x10 := fle .f32 a0.Phase 1098907648;
            .leaf x10)
           (
            .leaf false))
          (
           .leaf false))
         (
          .leaf false))))))
    (
     .leaf false)))
def spec_l03Is (a0 : Orbit) : Bool := (spec_l03Is_tree a0).val
def spec_l03Is_mk (p : Bool) : Ret := ⟨.bool p, []⟩
def spec_l03Is_c0 : Con := fun args => match args with
  | [.vcell [.flt .f32 a0_0, .flt .f32 a0_1, .flt .f32 a0_2, .flt .f32 a0_3, .flt .f32 a0_4, .flt .f32 a0_5] 0] => some (.leaf (spec_l03Is_mk (spec_l03Is (⟨a0_0, a0_1, a0_2, a0_3, a0_4, a0_5⟩ : Orbit))))
  | _ => none
set_option maxRecDepth 100000 in
theorem spec_l03Is_ok0 : FunOK Tryz.prog 74 spec_l03Is_c0.fn := by
  refine con_ok (Γ := gam [(94, spec_l01Finite_c), (95, spec_l03Turn_c)]) (gam_cons spec_l01Finite_ok (gam_cons spec_l03Turn_ok (gam_nil))) tab_ok (by kernel_rfl) Tryz.func74 (by kernel_rfl) (by kernel_rfl) Tryz.ntmps74 Tryz.results74 (loopsOK_none rfl _) 100000 fun args t h => ?_
  unfold spec_l03Is_c0 at h
  split at h
  · rename_i a0_0 a0_1 a0_2 a0_3 a0_4 a0_5
    cases h
    exact ⟨rfl, agree_tot (mk := spec_l03Is_mk) (t := spec_l03Is_tree (⟨a0_0, a0_1, a0_2, a0_3, a0_4, a0_5⟩ : Orbit)) (by unfold Agree; kernel_rfl) (by kernel_rfl)⟩
  · cases h
def spec_l03Is_c : Con := fun args => spec_l03Is_c0 (norms 0 [.ptr 6] args)
set_option maxRecDepth 100000 in
theorem spec_l03Is_ok : FunOK Tryz.prog 74 spec_l03Is_c.fn := con_norm [.ptr 6] spec_l03Is_ok0

/-- loop.example/g01284/spec.l07Entry -/
def spec_l07Entry_tree (a0 : Entry) : DT (Bool) :=
  .need ((spec_l07Name_need a0.Name)) (
  let x0 := spec_l07Name a0.Name;
  .ask x0
  (
   let x1 := spec_l02Above a0.Mass;
   .ask x1
   (
    let x2 := spec_l03Is (⟨a0.Orb.Long, a0.Orb.Round, a0.Orb.Tilt, a0.Orb.Node, a0.Orb.Peri, a0.Orb.Phase⟩ : Orbit);
    .leaf x2)
   (
    .leaf false))
  (
   .leaf false))
def spec_l07Entry (a0 : Entry) : Bool := (spec_l07Entry_tree a0).val
def spec_l07Entry_need (a0 : Entry) : Bool := (spec_l07Entry_tree a0).ok
def spec_l07Entry_mk (p : Bool) : Ret := ⟨.bool p, []⟩
def spec_l07Entry_c0 : Con := fun args => match args with
  | [.vcell [.str a0_0, .flt .f32 a0_1, .flt .f32 a0_2, .flt .f32 a0_3, .flt .f32 a0_4, .flt .f32 a0_5, .flt .f32 a0_6, .flt .f32 a0_7] 0] => some (.need (spec_l07Entry_need (⟨a0_0, a0_1, ⟨a0_2, a0_3, a0_4, a0_5, a0_6, a0_7⟩⟩ : Entry)) (.leaf (spec_l07Entry_mk (spec_l07Entry (⟨a0_0, a0_1, ⟨a0_2, a0_3, a0_4, a0_5, a0_6, a0_7⟩⟩ : Entry)))))
  | _ => none
set_option maxRecDepth 100000 in
theorem spec_l07Entry_ok0 : FunOK Tryz.prog 55 spec_l07Entry_c0.fn := by
  refine con_ok (Γ := gam [(72, spec_l07Name_c), (73, spec_l02Above_c), (74, spec_l03Is_c)]) (gam_cons spec_l07Name_ok (gam_cons spec_l02Above_ok (gam_cons spec_l03Is_ok (gam_nil)))) tab_ok (by kernel_rfl) Tryz.func55 (by kernel_rfl) (by kernel_rfl) Tryz.ntmps55 Tryz.results55 (loopsOK_none rfl _) 100000 fun args t h => ?_
  unfold spec_l07Entry_c0 at h
  split at h
  · rename_i a0_0 a0_1 a0_2 a0_3 a0_4 a0_5 a0_6 a0_7
    cases h
    exact ⟨rfl, agree_need (mk := spec_l07Entry_mk) (t := spec_l07Entry_tree (⟨a0_0, a0_1, ⟨a0_2, a0_3, a0_4, a0_5, a0_6, a0_7⟩⟩ : Entry)) (by unfold Agree; kernel_rfl)⟩
  · cases h
def spec_l07Entry_c : Con := fun args => spec_l07Entry_c0 (norms 0 [.ptr 8] args)
set_option maxRecDepth 100000 in
theorem spec_l07Entry_ok : FunOK Tryz.prog 55 spec_l07Entry_c.fn := con_norm [.ptr 8] spec_l07Entry_ok0

/-- a loop of spec_l07List -/
def spec_l07List_loop0_step (p : List Entry) (s : Int) : Round (Int) ((Unit) ⊕ (Unit)) :=
  let x0 := ((List.length p : Nat) : Int);
  let x1 := decide (s < x0);
  .ask x1
  (
   let x2 := ((List.length p : Nat) : Int);
   let x3 := decide (x2 ≤ 16);
   .ask x3
   (
    .need ((decide (0 ≤ s) && decide (s < ((List.length p : Nat) : Int)))) (
    let x4 := List.getD p (Int.toNat s) default;
    .need ((spec_l07Entry_need (⟨x4.Name, x4.Mass, ⟨x4.Orb.Long, x4.Orb.Round, x4.Orb.Tilt, x4.Orb.Node, x4.Orb.Peri, x4.Orb.Phase⟩⟩ : Entry))) (
    let x5 := spec_l07Entry (⟨x4.Name, x4.Mass, ⟨x4.Orb.Long, x4.Orb.Round, x4.Orb.Tilt, x4.Orb.Node, x4.Orb.Peri, x4.Orb.Phase⟩⟩ : Entry);
    .ask (!x5)
    (
     .leaf (.inr (.inl ()), []))
    (
     let x6 := decide (s > 0);
     .ask x6
     (
      let x7 := IntKind.wrap .i64 (s - 1);
      .need ((decide (0 ≤ x7) && decide (x7 < ((List.length p : Nat) : Int)))) (
      let x8 := List.getD p (Int.toNat x7) default;
      .need ((decide (0 ≤ s) && decide (s < ((List.length p : Nat) : Int)))) (
      let x9 := List.getD p (Int.toNat s) default;
      let x10 := (!Op.bytesLess x8.Name x9.Name);
      .ask x10
      (
       .leaf (.inr (.inl ()), []))
      (
       let x11 := IntKind.wrap .i64 (s + 1);
       .leaf (.inl x11, [])))))
     (
      let x7 := IntKind.wrap .i64 (s + 1);
      .leaf (.inl x7, []))))))
   (
    .leaf (.inr (.inr ()), [])))
  (
   .leaf (.inr (.inr ()), []))
def spec_l07List_loop0_L (p : List Entry) : LoopS (Int) ((Unit) ⊕ (Unit)) := { tl := fun s => [.vslc 1 .entry p, .junk, .junk, .int .i64 s], hl := fun s => [], ex := fun r => match r with | .inl r => .ret | .inr r => .exit 0, otl := fun r => match r with | .inl r => [.junk, .junk, .bool false] | .inr r => [.vslc 1 .entry p], ohl := fun r => match r with | .inl r => [] | .inr r => [] }
def spec_l07List_loop0_ext : St → Option ((List Entry) × (Int) × List Nat) := fun S => match (S.tm 0).unK, (S.tm 3).unK with
  | .vslc 1 .entry q0, .int .i64 q1 => some (q0, q1, [])
  | _, _ => none
def spec_l07List_loop0_post (p : List Entry) (r : (Unit) ⊕ (Unit)) : DT (Ex × St) := .ask (isL r) (.leaf (.ret, LSt [.junk, .junk, .bool false] [])) (.leaf (.exit 0, LSt [.vslc 1 .entry p] []))
def spec_l07List_loop0 (p : List Entry) (s : Int) : (Unit) ⊕ (Unit) := loopVal (spec_l07List_loop0_step p) s
def spec_l07List_loop0_ends (p : List Entry) (s : Int) : Bool := loopEnds (spec_l07List_loop0_step p) s
def spec_l07List_loop0_F : LoopF := loopF spec_l07List_loop0_step spec_l07List_loop0_ext spec_l07List_loop0_post
theorem spec_l07List_loop0_hext : ∀ S p s fl, spec_l07List_loop0_ext S = some (p, s, fl) → Norm S fl ((spec_l07List_loop0_L p).tl s) ((spec_l07List_loop0_L p).hl s) (spec_l07List_loop0_L p).gl := by
  intro S p s fl h
  unfold spec_l07List_loop0_ext at h
  (repeat' split at h) <;> first
    | (cases h; constructor <;> simp_all [spec_l07List_loop0_L, keepT, keepH, rens, renH, PV.ren, Blk.ren, fOf, lget, nodup, natIn, lenEq, gtm, PV.unK])
    | cases h
theorem spec_l07List_loop0_hpost : ∀ p r e S', (spec_l07List_loop0_post p r).get = some (e, S') → e = (spec_l07List_loop0_L p).ex r ∧ S' = LSt ((spec_l07List_loop0_L p).otl r) ((spec_l07List_loop0_L p).ohl r) ((spec_l07List_loop0_L p).ogl r) := by
  intro p r e S' h
  unfold spec_l07List_loop0_post at h
  cases r <;> (simp only [isL, DT.get, Option.some.injEq, Prod.mk.injEq] at h; exact ⟨h.1.symm, h.2.symm⟩)

def spec_l07List_loops : Nat → Option LoopF := loopTab [(2, spec_l07List_loop0_F)]
set_option maxRecDepth 100000 in
theorem spec_l07List_l0 : LoopOK Tryz.prog ⟨gam [(55, spec_l07Entry_c)], tab, 41, spec_l07List_loops⟩ (lp Tryz.f39 0) :=
  loopOK_some (F := spec_l07List_loop0_F) (by kernel_rfl) (loopF_ok (E := ⟨gam [(55, spec_l07Entry_c)], tab, 41, spec_l07List_loops⟩) ⟨gam_cons spec_l07Entry_ok (gam_nil), tab_ok, by kernel_rfl⟩ (fuel := 100000) (loopsOK_list (l := []) (by kernel_rfl) trivial) (L := spec_l07List_loop0_L) (fun p s => by unfold AgreeL; exact ⟨by kernel_rfl, by kernel_rfl⟩) (fun _ r h => by cases r <;> exact Ex.noConfusion h) spec_l07List_loop0_hext spec_l07List_loop0_hpost)
/-- loop.example/g01284/spec.l07List -/
def spec_l07List_tree (a0 : List Entry) : DT (Bool) :=
  .need ((spec_l07List_loop0_ends a0 0)) (
  let x0 := spec_l07List_loop0 a0 0;
  .ask ((isL x0))
  (
   .leaf false)
  (
   let x1 := ((List.length a0 : Nat) : Int);
   let x2 := decide (x1 ≤ 16);
   .leaf x2))
def spec_l07List (a0 : List Entry) : Bool := (spec_l07List_tree a0).val
def spec_l07List_need (a0 : List Entry) : Bool := (spec_l07List_tree a0).ok
def spec_l07List_mk (p : Bool) : Ret := ⟨.bool p, []⟩
def spec_l07List_c0 : Con := fun args => match args with
  | [.vslc 1 .entry a0] => some (.need (spec_l07List_need a0) (.leaf (spec_l07List_mk (spec_l07List a0))))
  | _ => none
set_option maxRecDepth 100000 in
theorem spec_l07List_ok0 : FunOK Tryz.prog 39 spec_l07List_c0.fn := by
  refine con_ok (Γ := gam [(55, spec_l07Entry_c)]) (gam_cons spec_l07Entry_ok (gam_nil)) tab_ok (by kernel_rfl) Tryz.func39 (by kernel_rfl) (by kernel_rfl) Tryz.ntmps39 Tryz.results39 (loops := spec_l07List_loops) (loopsOK_list (l := [lp Tryz.f39 0]) (by kernel_rfl) ⟨spec_l07List_l0, trivial⟩) 100000 fun args t h => ?_
  unfold spec_l07List_c0 at h
  split at h
  · rename_i a0
    cases h
    exact ⟨rfl, agree_need (mk := spec_l07List_mk) (t := spec_l07List_tree a0) (by unfold Agree; kernel_rfl)⟩
  · cases h
def spec_l07List_c : Con := fun args => spec_l07List_c0 (norms 0 [.slc .entry] args)
set_option maxRecDepth 100000 in
theorem spec_l07List_ok : FunOK Tryz.prog 39 spec_l07List_c.fn := con_norm [.slc .entry] spec_l07List_ok0

/-- a loop of spec_l08ReadEntries -/
def spec_l08ReadEntries_loop0_step (p : List (List UInt8)) (s : Int × List Entry) : Round (Int × List Entry) ((Unit) ⊕ (List Entry)) :=
  let x0 := ((List.length p : Nat) : Int);
  let x1 := decide (s.1 < x0);
  .ask x1
  (
   .need ((decide (0 ≤ s.1) && decide (s.1 < ((List.length p : Nat) : Int)))) (
   .need ((decide ((Int.toNat s.1) < List.length p))) (
   let x2 := List.getD p (Int.toNat s.1) default;
   .need ((spec_l01Cut_need x2 58)) (
   let x3 := spec_l01Cut x2 58;
   let x4 := ((List.length x3 : Nat) : Int);
   let x5 := (x4 != 2);
   .ask x5
   (
    .leaf (.inr (.inl ()), []))
   (
    .need ((decide (0 ≤ 1) && decide (1 < ((List.length x3 : Nat) : Int)))) (
    .need ((decide (1 < List.length x3))) (
    let x6 := List.getD x3 1 default;
    .need ((spec_l01NRead_need x6)) (
    let x7 := spec_l01NRead x6;
    .ask ((isL x7))
    (
     .skip (
     .skip (
     let x8 := ((List.length (leftD x7) : Nat) : Int);
     .skip (
     let x9 := (x8 != 7);
     .skip (
     .ask x9
     (
      .leaf (.inr (.inl ()), []))
     (
      .need ((decide (0 ≤ 0) && decide (0 < ((List.length x3 : Nat) : Int)))) (
      .need ((decide (0 < List.length x3))) (
      let x10 := List.getD x3 0 default;
      .need ((decide (0 ≤ 0) && decide (0 < ((List.length (leftD x7) : Nat) : Int)))) (
      .need ((decide (0 < List.length (leftD x7)))) (
      let x11 := List.getD (leftD x7) 0 default;
      .need ((decide (0 ≤ 1) && decide (1 ≤ (((List.length (leftD x7)) : Nat) : Int)))) (
      .need ((decide (1 + ((List.length (leftD x7)) - 1) ≤ List.length (leftD x7)))) (
      let x12 := List.take ((List.length (leftD x7)) - 1) (List.drop 1 (leftD x7));
      .need ((spec_l08From_need x12)) (
      let x13 := spec_l08From x12;
      .need ((decide ((List.length s.2 + List.length [(⟨x10, x11, ⟨x13.Long, x13.Round, x13.Tilt, x13.Node, x13.Peri, x13.Phase⟩⟩ : Entry)]) * 48 ≤ 140737488355328) && decide (List.length s.2 + List.length [(⟨x10, x11, ⟨x13.Long, x13.Round, x13.Tilt, x13.Node, x13.Peri, x13.Phase⟩⟩ : Entry)] ≤ 9223372036854775807))) (
      let x14 := s.2 ++ [(⟨x10, x11, ⟨x13.Long, x13.Round, x13.Tilt, x13.Node, x13.Peri, x13.Phase⟩⟩ : Entry)];
      let x15 := IntKind.wrap .i64 (s.1 + 1);
      .leaf (.inl (x15, x14), [330, 1])))))))))))))))
    (
     .skip (
     .skip (
     .skip (
     .skip (
     .leaf (.inr (.inl ()), []))))))))))))))
  (
   .leaf (.inr (.inr s.2), [0]))
def spec_l08ReadEntries_loop0_L (p : List (List UInt8)) : LoopS (Int × List Entry) ((Unit) ⊕ (List Entry)) := { tl := fun s => [.junk, .junk, .junk, .junk, .own 0, .own 1, .int .i64 s.1], hl := fun s => [some (.typed 56 .entry s.2), some (.typed 9 .str p)], ex := fun r => match r with | .inl r => .ret | .inr r => .exit 0, otl := fun r => match r with | .inl r => [.junk, .junk, .nils, .bool false] | .inr r => [.junk, .junk, .junk, .junk, .own 0], ohl := fun r => match r with | .inl r => [] | .inr r => [some (.typed 56 .entry r)] }
def spec_l08ReadEntries_loop0_ext : St → Option ((List (List UInt8)) × (Int × List Entry) × List Nat) := fun S => match (S.tm 4).unK, (S.tm 5).unK, (S.tm 6).unK with
  | .own i0, .own i1, .int .i64 q0 => (match S.hp i0 with
    | some (.typed 56 .entry q1) => (match S.hp i1 with
    | some (.typed 9 .str q2) => (if nodup [i0, i1] = true then some (q2, (q0, q1), [i0, i1]) else none)
    | _ => none)
    | _ => none)
  | _, _, _ => none
def spec_l08ReadEntries_loop0_post (p : List (List UInt8)) (r : (Unit) ⊕ (List Entry)) : DT (Ex × St) := .ask (isL r) (.leaf (.ret, LSt [.junk, .junk, .nils, .bool false] [])) (.leaf (.exit 0, LSt [.junk, .junk, .junk, .junk, .own 0] [some (.typed 56 .entry ((rightD r)))]))
def spec_l08ReadEntries_loop0 (p : List (List UInt8)) (s : Int × List Entry) : (Unit) ⊕ (List Entry) := loopVal (spec_l08ReadEntries_loop0_step p) s
def spec_l08ReadEntries_loop0_ends (p : List (List UInt8)) (s : Int × List Entry) : Bool := loopEnds (spec_l08ReadEntries_loop0_step p) s
def spec_l08ReadEntries_loop0_F : LoopF := loopF spec_l08ReadEntries_loop0_step spec_l08ReadEntries_loop0_ext spec_l08ReadEntries_loop0_post
theorem spec_l08ReadEntries_loop0_hext : ∀ S p s fl, spec_l08ReadEntries_loop0_ext S = some (p, s, fl) → Norm S fl ((spec_l08ReadEntries_loop0_L p).tl s) ((spec_l08ReadEntries_loop0_L p).hl s) (spec_l08ReadEntries_loop0_L p).gl := by
  intro S p s fl h
  unfold spec_l08ReadEntries_loop0_ext at h
  (repeat' split at h) <;> first
    | (cases h; constructor <;> simp_all [spec_l08ReadEntries_loop0_L, keepT, keepH, rens, renH, PV.ren, Blk.ren, fOf, lget, nodup, natIn, lenEq, gtm, PV.unK])
    | cases h
theorem spec_l08ReadEntries_loop0_hpost : ∀ p r e S', (spec_l08ReadEntries_loop0_post p r).get = some (e, S') → e = (spec_l08ReadEntries_loop0_L p).ex r ∧ S' = LSt ((spec_l08ReadEntries_loop0_L p).otl r) ((spec_l08ReadEntries_loop0_L p).ohl r) ((spec_l08ReadEntries_loop0_L p).ogl r) := by
  intro p r e S' h
  unfold spec_l08ReadEntries_loop0_post at h
  cases r <;> (simp only [isL, DT.get, Option.some.injEq, Prod.mk.injEq] at h; exact ⟨h.1.symm, h.2.symm⟩)

def spec_l08ReadEntries_loops : Nat → Option LoopF := loopTab [(6, spec_l08ReadEntries_loop0_F)]
set_option maxRecDepth 100000 in
theorem spec_l08ReadEntries_l0 : LoopOK Tryz.prog ⟨gam [(29, spec_l01Cut_c), (37, spec_l01NRead_c), (38, spec_l08From_c), (39, spec_l07List_c)], tab, 61, spec_l08ReadEntries_loops⟩ (lp Tryz.f22 0) :=
  loopOK_some (F := spec_l08ReadEntries_loop0_F) (by kernel_rfl) (loopF_ok (E := ⟨gam [(29, spec_l01Cut_c), (37, spec_l01NRead_c), (38, spec_l08From_c), (39, spec_l07List_c)], tab, 61, spec_l08ReadEntries_loops⟩) ⟨gam_cons spec_l01Cut_ok (gam_cons spec_l01NRead_ok (gam_cons spec_l08From_ok (gam_cons spec_l07List_ok (gam_nil)))), tab_ok, by kernel_rfl⟩ (fuel := 100000) (loopsOK_list (l := []) (by kernel_rfl) trivial) (L := spec_l08ReadEntries_loop0_L) (fun p s => by unfold AgreeL; exact ⟨by kernel_rfl, by kernel_rfl⟩) (fun _ r h => by cases r <;> exact Ex.noConfusion h) spec_l08ReadEntries_loop0_hext spec_l08ReadEntries_loop0_hpost)
/-- loop.example/g01284/spec.l08ReadEntries -/
def spec_l08ReadEntries_tree (a0 : (List UInt8)) : DT ((List Entry) ⊕ (Unit)) :=
  let x0 := (a0 == [110, 111, 110, 101]);
  .ask x0
  (
   .leaf (.inl []))
  (
   .need ((spec_l01Cut_need a0 47)) (
   let x1 := spec_l01Cut a0 47;
   .need ((spec_l08ReadEntries_loop0_ends x1 (0, []))) (
   let x2 := spec_l08ReadEntries_loop0 x1 (0, []);
   .ask ((isL x2))
   (
    .leaf (.inr ()))
   (
    .need ((spec_l07List_need ((rightD x2)))) (
    let x3 := spec_l07List ((rightD x2));
    .ask (!x3)
    (
     .leaf (.inr ()))
    (
     .leaf (.inl ((rightD x2)))))))))
def spec_l08ReadEntries (a0 : (List UInt8)) : (List Entry) ⊕ (Unit) := (spec_l08ReadEntries_tree a0).val
def spec_l08ReadEntries_need (a0 : (List UInt8)) : Bool := (spec_l08ReadEntries_tree a0).ok
def spec_l08ReadEntries_mk0 (p : List Entry) : Ret := ⟨.tup [.own 0, .bool true], [.typed 56 .entry p]⟩
def spec_l08ReadEntries_mk1 (p : Unit) : Ret := ⟨.tup [.nils, .bool false], []⟩
def spec_l08ReadEntries_mk : (List Entry) ⊕ (Unit) → Ret := fun v => match v with
  | (.inl p) => spec_l08ReadEntries_mk0 p
  | (.inr p) => spec_l08ReadEntries_mk1 p
def spec_l08ReadEntries_forms (v : (List Entry) ⊕ (Unit)) : DT Ret := .ask (isL v) (.leaf (spec_l08ReadEntries_mk0 (leftD v))) (.leaf (spec_l08ReadEntries_mk1 (rightD v)))
theorem spec_l08ReadEntries_forms_get : ∀ v, (spec_l08ReadEntries_forms v).get = some (spec_l08ReadEntries_mk v) := by
  intro v
  rcases v with v | v <;> rfl
def spec_l08ReadEntries_c : Con := fun args => match args with
  | [.str a0] => some (.need (spec_l08ReadEntries_need a0) (spec_l08ReadEntries_forms (spec_l08ReadEntries a0)))
  | _ => none
set_option maxRecDepth 100000 in
theorem spec_l08ReadEntries_ok : FunOK Tryz.prog 22 spec_l08ReadEntries_c.fn := by
  refine con_ok (Γ := gam [(29, spec_l01Cut_c), (37, spec_l01NRead_c), (38, spec_l08From_c), (39, spec_l07List_c)]) (gam_cons spec_l01Cut_ok (gam_cons spec_l01NRead_ok (gam_cons spec_l08From_ok (gam_cons spec_l07List_ok (gam_nil))))) tab_ok (by kernel_rfl) Tryz.func22 (by kernel_rfl) (by kernel_rfl) Tryz.ntmps22 Tryz.results22 (loops := spec_l08ReadEntries_loops) (loopsOK_list (l := [lp Tryz.f22 0]) (by kernel_rfl) ⟨spec_l08ReadEntries_l0, trivial⟩) 100000 fun args t h => ?_
  unfold spec_l08ReadEntries_c at h
  split at h
  · rename_i a0
    cases h
    exact ⟨rfl, agree_forms (mk := spec_l08ReadEntries_mk) (t := spec_l08ReadEntries_tree a0) (by unfold Agree; kernel_rfl) (fun h => h) (spec_l08ReadEntries_forms_get _)⟩
  · cases h

/-- loop.example/g01284/spec.ReadEntries -/
def spec_ReadEntries_tree (a0 : (List UInt8)) : DT ((List Entry) ⊕ (Unit)) :=
  .need ((spec_l08ReadEntries_need a0)) (
  let x0 := spec_l08ReadEntries a0;
  .ask ((isL x0))
  (
   .leaf (.inl ((leftD x0))))
  (
   .leaf (.inr ())))
def spec_ReadEntries (a0 : (List UInt8)) : (List Entry) ⊕ (Unit) := (spec_ReadEntries_tree a0).val
def spec_ReadEntries_need (a0 : (List UInt8)) : Bool := (spec_ReadEntries_tree a0).ok
def spec_ReadEntries_mk0 (p : List Entry) : Ret := ⟨.tup [.own 0, .bool true], [.typed 56 .entry p]⟩
def spec_ReadEntries_mk1 (p : Unit) : Ret := ⟨.tup [.nils, .bool false], []⟩
def spec_ReadEntries_mk : (List Entry) ⊕ (Unit) → Ret := fun v => match v with
  | (.inl p) => spec_ReadEntries_mk0 p
  | (.inr p) => spec_ReadEntries_mk1 p
def spec_ReadEntries_forms (v : (List Entry) ⊕ (Unit)) : DT Ret := .ask (isL v) (.leaf (spec_ReadEntries_mk0 (leftD v))) (.leaf (spec_ReadEntries_mk1 (rightD v)))
theorem spec_ReadEntries_forms_get : ∀ v, (spec_ReadEntries_forms v).get = some (spec_ReadEntries_mk v) := by
  intro v
  rcases v with v | v <;> rfl
def spec_ReadEntries_c : Con := fun args => match args with
  | [.str a0] => some (.need (spec_ReadEntries_need a0) (spec_ReadEntries_forms (spec_ReadEntries a0)))
  | _ => none
set_option maxRecDepth 100000 in
theorem spec_ReadEntries_ok : FunOK Tryz.prog 10 spec_ReadEntries_c.fn := by
  refine con_ok (Γ := gam [(22, spec_l08ReadEntries_c)]) (gam_cons spec_l08ReadEntries_ok (gam_nil)) tab_ok (by kernel_rfl) Tryz.func10 (by kernel_rfl) (by kernel_rfl) Tryz.ntmps10 Tryz.results10 (loopsOK_none rfl _) 100000 fun args t h => ?_
  unfold spec_ReadEntries_c at h
  split at h
  · rename_i a0
    cases h
    exact ⟨rfl, agree_forms (mk := spec_ReadEntries_mk) (t := spec_ReadEntries_tree a0) (by unfold Agree; kernel_rfl) (fun h => h) (spec_ReadEntries_forms_get _)⟩
  · cases h

-- FAILED 40 internal/stringslite.Cut: no contract: internal/stringslite.Index 

-- FAILED 23 strings.Cut: no contract: internal/stringslite.Cut 

/-- loop.example/g01284/impl.orbitFrom -/
def impl_orbitFrom_tree (a0 : List Nat) : DT (Orbit) :=
  .need ((decide (0 ≤ 0) && decide (0 < ((List.length a0 : Nat) : Int)))) (
  let x0 := List.getD a0 0 default;
  .need ((decide (0 ≤ 1) && decide (1 < ((List.length a0 : Nat) : Int)))) (
  let x1 := List.getD a0 1 default;
  .need ((decide (0 ≤ 2) && decide (2 < ((List.length a0 : Nat) : Int)))) (
  let x2 := List.getD a0 2 default;
  .need ((decide (0 ≤ 3) && decide (3 < ((List.length a0 : Nat) : Int)))) (
  let x3 := List.getD a0 3 default;
  .need ((decide (0 ≤ 4) && decide (4 < ((List.length a0 : Nat) : Int)))) (
  let x4 := List.getD a0 4 default;
  .need ((decide (0 ≤ 5) && decide (5 < ((List.length a0 : Nat) : Int)))) (
  let x5 := List.getD a0 5 default;
  .leaf ((⟨x0, x1, x2, x3, x4, x5⟩ : Orbit))))))))
def impl_orbitFrom (a0 : List Nat) : Orbit := (impl_orbitFrom_tree a0).val
def impl_orbitFrom_need (a0 : List Nat) : Bool := (impl_orbitFrom_tree a0).ok
def impl_orbitFrom_mk (p : Orbit) : Ret := ⟨.agg [.flt .f32 p.Long, .flt .f32 p.Round, .flt .f32 p.Tilt, .flt .f32 p.Node, .flt .f32 p.Peri, .flt .f32 p.Phase], []⟩
def impl_orbitFrom_c0 : Con := fun args => match args with
  | [.vslc 1 (.flt .f32) a0] => some (.need (impl_orbitFrom_need a0) (.leaf (impl_orbitFrom_mk (impl_orbitFrom a0))))
  | _ => none
set_option maxRecDepth 100000 in
theorem impl_orbitFrom_ok0 : FunOK Tryz.prog 25 impl_orbitFrom_c0.fn := by
  refine con_ok (Γ := gam []) (gam_nil) tab_ok (by kernel_rfl) Tryz.func25 (by kernel_rfl) (by kernel_rfl) Tryz.ntmps25 Tryz.results25 (loopsOK_none rfl _) 100000 fun args t h => ?_
  unfold impl_orbitFrom_c0 at h
  split at h
  · rename_i a0
    cases h
    exact ⟨rfl, agree_need (mk := impl_orbitFrom_mk) (t := impl_orbitFrom_tree a0) (by unfold Agree; kernel_rfl)⟩
  · cases h
def impl_orbitFrom_c : Con := fun args => impl_orbitFrom_c0 (norms 0 [.slc (.flt .f32)] args)
set_option maxRecDepth 100000 in
theorem impl_orbitFrom_ok : FunOK Tryz.prog 25 impl_orbitFrom_c.fn := con_norm [.slc (.flt .f32)] impl_orbitFrom_ok0

/-- a loop of impl_IsName -/
def impl_IsName_loop0_step (p : (List UInt8) × Int) (s : Int) : Round (Int) ((Unit) ⊕ (Unit)) :=
  let x0 := decide (s < p.2);
  .ask x0
  (
   .need ((decide (0 ≤ s) && decide (s < ((List.length p.1 : Nat) : Int)))) (
   let x1 := ((List.getD (p.1 : List UInt8) (Int.toNat s) 0).toNat : Int);
   let x2 := decide (x1 < 97);
   .ask x2
   (
    .leaf (.inr (.inl ()), []))
   (
    .need ((decide (0 ≤ s) && decide (s < ((List.length p.1 : Nat) : Int)))) (
    let x3 := ((List.getD (p.1 : List UInt8) (Int.toNat s) 0).toNat : Int);
    let x4 := decide (x3 > 122);
    .ask x4
    (
     .leaf (.inr (.inl ()), []))
    (
     let x5 := IntKind.wrap .i64 (s + 1);
     .leaf (.inl x5, []))))))
  (
   .leaf (.inr (.inr ()), []))
def impl_IsName_loop0_L (p : (List UInt8) × Int) : LoopS (Int) ((Unit) ⊕ (Unit)) := { tl := fun s => [.str p.1, .junk, .junk, .junk, .junk, .int .i64 p.2, .int .i64 s], hl := fun s => [], ex := fun r => match r with | .inl r => .ret | .inr r => .exit 0, otl := fun r => match r with | .inl r => [.junk, .junk, .bool false] | .inr r => [.str p.1], ohl := fun r => match r with | .inl r => [] | .inr r => [] }
def impl_IsName_loop0_ext : St → Option (((List UInt8) × Int) × (Int) × List Nat) := fun S => match (S.tm 0).unK, (S.tm 5).unK, (S.tm 6).unK with
  | .str q0, .int .i64 q1, .int .i64 q2 => some ((q0, q1), q2, [])
  | _, _, _ => none
def impl_IsName_loop0_post (p : (List UInt8) × Int) (r : (Unit) ⊕ (Unit)) : DT (Ex × St) := .ask (isL r) (.leaf (.ret, LSt [.junk, .junk, .bool false] [])) (.leaf (.exit 0, LSt [.str p.1] []))
def impl_IsName_loop0 (p : (List UInt8) × Int) (s : Int) : (Unit) ⊕ (Unit) := loopVal (impl_IsName_loop0_step p) s
def impl_IsName_loop0_ends (p : (List UInt8) × Int) (s : Int) : Bool := loopEnds (impl_IsName_loop0_step p) s
def impl_IsName_loop0_F : LoopF := loopF impl_IsName_loop0_step impl_IsName_loop0_ext impl_IsName_loop0_post
theorem impl_IsName_loop0_hext : ∀ S p s fl, impl_IsName_loop0_ext S = some (p, s, fl) → Norm S fl ((impl_IsName_loop0_L p).tl s) ((impl_IsName_loop0_L p).hl s) (impl_IsName_loop0_L p).gl := by
  intro S p s fl h
  unfold impl_IsName_loop0_ext at h
  (repeat' split at h) <;> first
    | (cases h; constructor <;> simp_all [impl_IsName_loop0_L, keepT, keepH, rens, renH, PV.ren, Blk.ren, fOf, lget, nodup, natIn, lenEq, gtm, PV.unK])
    | cases h
theorem impl_IsName_loop0_hpost : ∀ p r e S', (impl_IsName_loop0_post p r).get = some (e, S') → e = (impl_IsName_loop0_L p).ex r ∧ S' = LSt ((impl_IsName_loop0_L p).otl r) ((impl_IsName_loop0_L p).ohl r) ((impl_IsName_loop0_L p).ogl r) := by
  intro p r e S' h
  unfold impl_IsName_loop0_post at h
  cases r <;> (simp only [isL, DT.get, Option.some.injEq, Prod.mk.injEq] at h; exact ⟨h.1.symm, h.2.symm⟩)

def impl_IsName_loops : Nat → Option LoopF := loopTab [(2, impl_IsName_loop0_F)]
set_option maxRecDepth 100000 in
theorem impl_IsName_l0 : LoopOK Tryz.prog ⟨gam [], tab, 28, impl_IsName_loops⟩ (lp Tryz.f60 0) :=
  loopOK_some (F := impl_IsName_loop0_F) (by kernel_rfl) (loopF_ok (E := ⟨gam [], tab, 28, impl_IsName_loops⟩) ⟨gam_nil, tab_ok, by kernel_rfl⟩ (fuel := 100000) (loopsOK_list (l := []) (by kernel_rfl) trivial) (L := impl_IsName_loop0_L) (fun p s => by unfold AgreeL; exact ⟨by kernel_rfl, by kernel_rfl⟩) (fun _ r h => by cases r <;> exact Ex.noConfusion h) impl_IsName_loop0_hext impl_IsName_loop0_hpost)
/-- loop.example/g01284/impl.IsName -/
def impl_IsName_tree (a0 : (List UInt8)) : DT (Bool) :=
  let x0 := ((List.length a0 : Nat) : Int);
  .need ((impl_IsName_loop0_ends (a0, x0) 0)) (
  let x1 := impl_IsName_loop0 (a0, x0) 0;
  .ask ((isL x1))
  (
   .leaf false)
  (
   let x2 := ((List.length a0 : Nat) : Int);
   let x3 := decide (x2 ≥ 1);
   .ask x3
   (
    let x4 := ((List.length a0 : Nat) : Int);
    let x5 := decide (x4 ≤ 8);
    .leaf x5)
   (
    .leaf false)))
def impl_IsName (a0 : (List UInt8)) : Bool := (impl_IsName_tree a0).val
def impl_IsName_need (a0 : (List UInt8)) : Bool := (impl_IsName_tree a0).ok
def impl_IsName_mk (p : Bool) : Ret := ⟨.bool p, []⟩
def impl_IsName_c : Con := fun args => match args with
  | [.str a0] => some (.need (impl_IsName_need a0) (.leaf (impl_IsName_mk (impl_IsName a0))))
  | _ => none
set_option maxRecDepth 100000 in
theorem impl_IsName_ok : FunOK Tryz.prog 60 impl_IsName_c.fn := by
  refine con_ok (Γ := gam []) (gam_nil) tab_ok (by kernel_rfl) Tryz.func60 (by kernel_rfl) (by kernel_rfl) Tryz.ntmps60 Tryz.results60 (loops := impl_IsName_loops) (loopsOK_list (l := [lp Tryz.f60 0]) (by kernel_rfl) ⟨impl_IsName_l0, trivial⟩) 100000 fun args t h => ?_
  unfold impl_IsName_c at h
  split at h
  · rename_i a0
    cases h
    exact ⟨rfl, agree_need (mk := impl_IsName_mk) (t := impl_IsName_tree a0) (by unfold Agree; kernel_rfl)⟩
  · cases h

/-- loop.example/g01284/impl.aLength -/
def impl_aLength_tree (a0 : Nat) : DT (Bool) :=
  .need ((impl_IsFinite_need a0)) (
  let x0 := impl_IsFinite a0;
  .ask x0
  (
   let x1 := fgt .f32 a0 0;
   .leaf x1)
  (
   .leaf false))
def impl_aLength (a0 : Nat) : Bool := (impl_aLength_tree a0).val
def impl_aLength_need (a0 : Nat) : Bool := (impl_aLength_tree a0).ok
def impl_aLength_mk (p : Bool) : Ret := ⟨.bool p, []⟩
def impl_aLength_c : Con := fun args => match args with
  | [.flt .f32 a0] => some (.need (impl_aLength_need a0) (.leaf (impl_aLength_mk (impl_aLength a0))))
  | _ => none
set_option maxRecDepth 100000 in
theorem impl_aLength_ok : FunOK Tryz.prog 61 impl_aLength_c.fn := by
  refine con_ok (Γ := gam [(52, impl_IsFinite_c)]) (gam_cons impl_IsFinite_ok (gam_nil)) tab_ok (by kernel_rfl) Tryz.func61 (by kernel_rfl) (by kernel_rfl) Tryz.ntmps61 Tryz.results61 (loopsOK_none rfl _) 100000 fun args t h => ?_
  unfold impl_aLength_c at h
  split at h
  · rename_i a0
    cases h
    exact ⟨rfl, agree_need (mk := impl_aLength_mk) (t := impl_aLength_tree a0) (by unfold Agree; kernel_rfl)⟩
  · cases h

/-- loop.example/g01284/impl.isTurn -/
def impl_isTurn_tree (a0 : Nat) : DT (Bool) :=
  let x0 := fge .f32 a0 0;
  .ask x0
  (
   let x1 := flt .f32 a0 1065353216;
   .leaf x1)
  (
   .leaf false)
def impl_isTurn (a0 : Nat) : Bool := (impl_isTurn_tree a0).val
def impl_isTurn_mk (p : Bool) : Ret := ⟨.bool p, []⟩
def impl_isTurn_c : Con := fun args => match args with
  | [.flt .f32 a0] => some (.leaf (impl_isTurn_mk (impl_isTurn a0)))
  | _ => none
set_option maxRecDepth 100000 in
theorem impl_isTurn_ok : FunOK Tryz.prog 84 impl_isTurn_c.fn := by
  refine con_ok (Γ := gam []) (gam_nil) tab_ok (by kernel_rfl) Tryz.func84 (by kernel_rfl) (by kernel_rfl) Tryz.ntmps84 Tryz.results84 (loopsOK_none rfl _) 100000 fun args t h => ?_
  unfold impl_isTurn_c at h
  split at h
  · rename_i a0
    cases h
    exact ⟨rfl, agree_tot (mk := impl_isTurn_mk) (t := impl_isTurn_tree a0) (by unfold Agree; kernel_rfl) (by kernel_rfl)⟩
  · cases h

/-- (loop.example/g01284/impl.Orbit).isEllipse -/
def impl_Orbit_isEllipse_tree (a0 : Orbit) : DT (Bool) :=
  let x0 := fgt .f32 a0.Long 0;
  .ask x0
  (
   let x1 := fge .f32 a0.Round 0;
   .ask x1
   (
    let x2 := flt .f32 a0.Round 1065353216;
    .ask x2
    (
     let x3 := impl_isTurn a0.Phase;
     .leaf x3)
    (
     .leaf false))
   (
    .leaf false))
  (
   .leaf false)
def impl_Orbit_isEllipse (a0 : Orbit) : Bool := (impl_Orbit_isEllipse_tree a0).val
def impl_Orbit_isEllipse_mk (p : Bool) : Ret := ⟨.bool p, []⟩
def impl_Orbit_isEllipse_c : Con := fun args => match args with
  | [.agg [.flt .f32 a0_0, .flt .f32 a0_1, .flt .f32 a0_2, .flt .f32 a0_3, .flt .f32 a0_4, .flt .f32 a0_5]] => some (.leaf (impl_Orbit_isEllipse_mk (impl_Orbit_isEllipse (⟨a0_0, a0_1, a0_2, a0_3, a0_4, a0_5⟩ : Orbit))))
  | _ => none
set_option maxRecDepth 100000 in
theorem impl_Orbit_isEllipse_ok : FunOK Tryz.prog 85 impl_Orbit_isEllipse_c.fn := by
  refine con_ok (Γ := gam [(84, impl_isTurn_c)]) (gam_cons impl_isTurn_ok (gam_nil)) tab_ok (by kernel_rfl) Tryz.func85 (by kernel_rfl) (by kernel_rfl) Tryz.ntmps85 Tryz.results85 (loopsOK_none rfl _) 100000 fun args t h => ?_
  unfold impl_Orbit_isEllipse_c at h
  split at h
  · rename_i a0_0 a0_1 a0_2 a0_3 a0_4 a0_5
    cases h
    exact ⟨rfl, agree_tot (mk := impl_Orbit_isEllipse_mk) (t := impl_Orbit_isEllipse_tree (⟨a0_0, a0_1, a0_2, a0_3, a0_4, a0_5⟩ : Orbit)) (by unfold Agree; kernel_rfl) (by kernel_rfl)⟩
  · cases h

/-- (loop.example/g01284/impl.Orbit).isBranch -/
def impl_Orbit_isBranch_tree (a0 : Orbit) : DT (Bool) :=
  let x0 := flt .f32 a0.Long 0;
  .ask x0
  (
   let x1 := fgt .f32 a0.Round 1065353216;
   .ask x1
   (
    let x2 := fge .f32 a0.Phase 3246391296;
    .ask x2
    (
     let x3 := fle .f32 a0.Phase 1098907648;
     .leaf x3)
    (
     .leaf false))
   (
    .leaf false))
  (
   .leaf false)
def impl_Orbit_isBranch (a0 : Orbit) : Bool := (impl_Orbit_isBranch_tree a0).val
def impl_Orbit_isBranch_mk (p : Bool) : Ret := ⟨.bool p, []⟩
def impl_Orbit_isBranch_c : Con := fun args => match args with
  | [.agg [.flt .f32 a0_0, .flt .f32 a0_1, .flt .f32 a0_2, .flt .f32 a0_3, .flt .f32 a0_4, .flt .f32 a0_5]] => some (.leaf (impl_Orbit_isBranch_mk (impl_Orbit_isBranch (⟨a0_0, a0_1, a0_2, a0_3, a0_4, a0_5⟩ : Orbit))))
  | _ => none
set_option maxRecDepth 100000 in
theorem impl_Orbit_isBranch_ok : FunOK Tryz.prog 86 impl_Orbit_isBranch_c.fn := by
  refine con_ok (Γ := gam []) (gam_nil) tab_ok (by kernel_rfl) Tryz.func86 (by kernel_rfl) (by kernel_rfl) Tryz.ntmps86 Tryz.results86 (loopsOK_none rfl _) 100000 fun args t h => ?_
  unfold impl_Orbit_isBranch_c at h
  split at h
  · rename_i a0_0 a0_1 a0_2 a0_3 a0_4 a0_5
    cases h
    exact ⟨rfl, agree_tot (mk := impl_Orbit_isBranch_mk) (t := impl_Orbit_isBranch_tree (⟨a0_0, a0_1, a0_2, a0_3, a0_4, a0_5⟩ : Orbit)) (by unfold Agree; kernel_rfl) (by kernel_rfl)⟩
  · cases h

/-- loop.example/g01284/impl.ValidOrbit -/
def impl_ValidOrbit_tree (a0 : Orbit) : DT (Bool) :=
  .need ((impl_areFinite_need ([a0.Long, a0.Round, a0.Tilt, a0.Node, a0.Peri, a0.Phase]))) (
  let x0 := impl_areFinite ([a0.Long, a0.Round, a0.Tilt, a0.Node, a0.Peri, a0.Phase]);
  .ask x0
  (
   let x1 := fge .f32 a0.Tilt 0;
   .ask x1
   (
    let x2 := fle .f32 a0.Tilt 1056964608;
    .ask x2
    (
     let x3 := impl_isTurn a0.Node;
     .ask x3
     (
      let x4 := impl_isTurn a0.Peri;
      .ask x4
      (
       let x5 := impl_Orbit_isEllipse (⟨a0.Long, a0.Round, a0.Tilt, a0.Node, a0.Peri, a0.Phase⟩ : Orbit);
       .ask x5
       (
        .leaf true)
       (
        let x6 := impl_Orbit_isBranch (⟨a0.Long, a0.Round, a0.Tilt, a0.Node, a0.Peri, a0.Phase⟩ : Orbit);
        .leaf x6))
      (
       .leaf false))
     (
      .leaf false))
    (
     .leaf false))
   (
    .leaf false))
  (
   .leaf false))
def impl_ValidOrbit (a0 : Orbit) : Bool := (impl_ValidOrbit_tree a0).val
def impl_ValidOrbit_need (a0 : Orbit) : Bool := (impl_ValidOrbit_tree a0).ok
def impl_ValidOrbit_mk (p : Bool) : Ret := ⟨.bool p, []⟩
def impl_ValidOrbit_c : Con := fun args => match args with
  | [.agg [.flt .f32 a0_0, .flt .f32 a0_1, .flt .f32 a0_2, .flt .f32 a0_3, .flt .f32 a0_4, .flt .f32 a0_5]] => some (.need (impl_ValidOrbit_need (⟨a0_0, a0_1, a0_2, a0_3, a0_4, a0_5⟩ : Orbit)) (.leaf (impl_ValidOrbit_mk (impl_ValidOrbit (⟨a0_0, a0_1, a0_2, a0_3, a0_4, a0_5⟩ : Orbit)))))
  | _ => none
set_option maxRecDepth 100000 in
theorem impl_ValidOrbit_ok : FunOK Tryz.prog 62 impl_ValidOrbit_c.fn := by
  refine con_ok (Γ := gam [(68, impl_areFinite_c), (84, impl_isTurn_c), (85, impl_Orbit_isEllipse_c), (86, impl_Orbit_isBranch_c)]) (gam_cons impl_areFinite_ok (gam_cons impl_isTurn_ok (gam_cons impl_Orbit_isEllipse_ok (gam_cons impl_Orbit_isBranch_ok (gam_nil))))) tab_ok (by kernel_rfl) Tryz.func62 (by kernel_rfl) (by kernel_rfl) Tryz.ntmps62 Tryz.results62 (loopsOK_none rfl _) 100000 fun args t h => ?_
  unfold impl_ValidOrbit_c at h
  split at h
  · rename_i a0_0 a0_1 a0_2 a0_3 a0_4 a0_5
    cases h
    exact ⟨rfl, agree_need (mk := impl_ValidOrbit_mk) (t := impl_ValidOrbit_tree (⟨a0_0, a0_1, a0_2, a0_3, a0_4, a0_5⟩ : Orbit)) (by unfold Agree; kernel_rfl)⟩
  · cases h

/-- loop.example/g01284/impl.ValidEntry -/
def impl_ValidEntry_tree (a0 : Entry) : DT (Bool) :=
  .need ((impl_IsName_need a0.Name)) (
  let x0 := impl_IsName a0.Name;
  .ask x0
  (
   .need ((impl_aLength_need a0.Mass)) (
   let x1 := impl_aLength a0.Mass;
   .ask x1
   (
    .need ((impl_ValidOrbit_need (⟨a0.Orb.Long, a0.Orb.Round, a0.Orb.Tilt, a0.Orb.Node, a0.Orb.Peri, a0.Orb.Phase⟩ : Orbit))) (
    let x2 := impl_ValidOrbit (⟨a0.Orb.Long, a0.Orb.Round, a0.Orb.Tilt, a0.Orb.Node, a0.Orb.Peri, a0.Orb.Phase⟩ : Orbit);
    .leaf x2))
   (
    .leaf false)))
  (
   .leaf false))
def impl_ValidEntry (a0 : Entry) : Bool := (impl_ValidEntry_tree a0).val
def impl_ValidEntry_need (a0 : Entry) : Bool := (impl_ValidEntry_tree a0).ok
def impl_ValidEntry_mk (p : Bool) : Ret := ⟨.bool p, []⟩
def impl_ValidEntry_c : Con := fun args => match args with
  | [.agg [.str a0_0, .flt .f32 a0_1, .flt .f32 a0_2, .flt .f32 a0_3, .flt .f32 a0_4, .flt .f32 a0_5, .flt .f32 a0_6, .flt .f32 a0_7]] => some (.need (impl_ValidEntry_need (⟨a0_0, a0_1, ⟨a0_2, a0_3, a0_4, a0_5, a0_6, a0_7⟩⟩ : Entry)) (.leaf (impl_ValidEntry_mk (impl_ValidEntry (⟨a0_0, a0_1, ⟨a0_2, a0_3, a0_4, a0_5, a0_6, a0_7⟩⟩ : Entry)))))
  | _ => none
set_option maxRecDepth 100000 in
theorem impl_ValidEntry_ok : FunOK Tryz.prog 43 impl_ValidEntry_c.fn := by
  refine con_ok (Γ := gam [(60, impl_IsName_c), (61, impl_aLength_c), (62, impl_ValidOrbit_c)]) (gam_cons impl_IsName_ok (gam_cons impl_aLength_ok (gam_cons impl_ValidOrbit_ok (gam_nil)))) tab_ok (by kernel_rfl) Tryz.func43 (by kernel_rfl) (by kernel_rfl) Tryz.ntmps43 Tryz.results43 (loopsOK_none rfl _) 100000 fun args t h => ?_
  unfold impl_ValidEntry_c at h
  split at h
  · rename_i a0_0 a0_1 a0_2 a0_3 a0_4 a0_5 a0_6 a0_7
    cases h
    exact ⟨rfl, agree_need (mk := impl_ValidEntry_mk) (t := impl_ValidEntry_tree (⟨a0_0, a0_1, ⟨a0_2, a0_3, a0_4, a0_5, a0_6, a0_7⟩⟩ : Entry)) (by unfold Agree; kernel_rfl)⟩
  · cases h

/-- a loop of impl_AreEntries -/
def impl_AreEntries_loop0_step (p : List Entry × List Entry × Int) (s : Int) : Round (Int) ((Unit) ⊕ (Unit)) :=
  let x0 := decide (s < p.2.2);
  .ask x0
  (
   .need ((decide (0 ≤ s) && decide (s < ((List.length p.2.1 : Nat) : Int)))) (
   let x1 := List.getD p.2.1 (Int.toNat s) default;
   .need ((impl_ValidEntry_need (⟨x1.Name, x1.Mass, ⟨x1.Orb.Long, x1.Orb.Round, x1.Orb.Tilt, x1.Orb.Node, x1.Orb.Peri, x1.Orb.Phase⟩⟩ : Entry))) (
   let x2 := impl_ValidEntry (⟨x1.Name, x1.Mass, ⟨x1.Orb.Long, x1.Orb.Round, x1.Orb.Tilt, x1.Orb.Node, x1.Orb.Peri, x1.Orb.Phase⟩⟩ : Entry);
   .ask (!x2)
   (
    .leaf (.inr (.inl ()), []))
   (
    let x3 := decide (s > 0);
    .ask x3
    (
     let x4 := IntKind.wrap .i64 (s - 1);
     .need ((decide (0 ≤ x4) && decide (x4 < ((List.length p.1 : Nat) : Int)))) (
     let x5 := List.getD p.1 (Int.toNat x4) default;
     let x6 := (!Op.bytesLess x5.Name x1.Name);
     .ask x6
     (
      .leaf (.inr (.inl ()), []))
     (
      let x7 := IntKind.wrap .i64 (s + 1);
      .leaf (.inl x7, []))))
    (
     let x4 := IntKind.wrap .i64 (s + 1);
     .leaf (.inl x4, []))))))
  (
   .leaf (.inr (.inr ()), []))
def impl_AreEntries_loop0_L (p : List Entry × List Entry × Int) : LoopS (Int) ((Unit) ⊕ (Unit)) := { tl := fun s => [.vslc 1 .entry p.1, .junk, .junk, .junk, .junk, .vslc 1 .entry p.2.1, .int .i64 p.2.2, .int .i64 s], hl := fun s => [], ex := fun r => match r with | .inl r => .ret | .inr r => .exit 0, otl := fun r => match r with | .inl r => [.junk, .junk, .bool false] | .inr r => [.vslc 1 .entry p.1], ohl := fun r => match r with | .inl r => [] | .inr r => [] }
def impl_AreEntries_loop0_ext : St → Option ((List Entry × List Entry × Int) × (Int) × List Nat) := fun S => match (S.tm 0).unK, (S.tm 5).unK, (S.tm 6).unK, (S.tm 7).unK with
  | .vslc 1 .entry q0, .vslc 1 .entry q1, .int .i64 q2, .int .i64 q3 => some ((q0, q1, q2), q3, [])
  | _, _, _, _ => none
def impl_AreEntries_loop0_post (p : List Entry × List Entry × Int) (r : (Unit) ⊕ (Unit)) : DT (Ex × St) := .ask (isL r) (.leaf (.ret, LSt [.junk, .junk, .bool false] [])) (.leaf (.exit 0, LSt [.vslc 1 .entry p.1] []))
def impl_AreEntries_loop0 (p : List Entry × List Entry × Int) (s : Int) : (Unit) ⊕ (Unit) := loopVal (impl_AreEntries_loop0_step p) s
def impl_AreEntries_loop0_ends (p : List Entry × List Entry × Int) (s : Int) : Bool := loopEnds (impl_AreEntries_loop0_step p) s
def impl_AreEntries_loop0_F : LoopF := loopF impl_AreEntries_loop0_step impl_AreEntries_loop0_ext impl_AreEntries_loop0_post
theorem impl_AreEntries_loop0_hext : ∀ S p s fl, impl_AreEntries_loop0_ext S = some (p, s, fl) → Norm S fl ((impl_AreEntries_loop0_L p).tl s) ((impl_AreEntries_loop0_L p).hl s) (impl_AreEntries_loop0_L p).gl := by
  intro S p s fl h
  unfold impl_AreEntries_loop0_ext at h
  (repeat' split at h) <;> first
    | (cases h; constructor <;> simp_all [impl_AreEntries_loop0_L, keepT, keepH, rens, renH, PV.ren, Blk.ren, fOf, lget, nodup, natIn, lenEq, gtm, PV.unK])
    | cases h
theorem impl_AreEntries_loop0_hpost : ∀ p r e S', (impl_AreEntries_loop0_post p r).get = some (e, S') → e = (impl_AreEntries_loop0_L p).ex r ∧ S' = LSt ((impl_AreEntries_loop0_L p).otl r) ((impl_AreEntries_loop0_L p).ohl r) ((impl_AreEntries_loop0_L p).ogl r) := by
  intro p r e S' h
  unfold impl_AreEntries_loop0_post at h
  cases r <;> (simp only [isL, DT.get, Option.some.injEq, Prod.mk.injEq] at h; exact ⟨h.1.symm, h.2.symm⟩)

def impl_AreEntries_loops : Nat → Option LoopF := loopTab [(2, impl_AreEntries_loop0_F)]
set_option maxRecDepth 100000 in
theorem impl_AreEntries_l0 : LoopOK Tryz.prog ⟨gam [(43, impl_ValidEntry_c)], tab, 34, impl_AreEntries_loops⟩ (lp Tryz.f26 0) :=
  loopOK_some (F := impl_AreEntries_loop0_F) (by kernel_rfl) (loopF_ok (E := ⟨gam [(43, impl_ValidEntry_c)], tab, 34, impl_AreEntries_loops⟩) ⟨gam_cons impl_ValidEntry_ok (gam_nil), tab_ok, by kernel_rfl⟩ (fuel := 100000) (loopsOK_list (l := []) (by kernel_rfl) trivial) (L := impl_AreEntries_loop0_L) (fun p s => by unfold AgreeL; exact ⟨by kernel_rfl, by kernel_rfl⟩) (fun _ r h => by cases r <;> exact Ex.noConfusion h) impl_AreEntries_loop0_hext impl_AreEntries_loop0_hpost)
/-- loop.example/g01284/impl.AreEntries -/
def impl_AreEntries_tree (a0 : List Entry) : DT (Bool) :=
  let x0 := ((List.length a0 : Nat) : Int);
  .need ((impl_AreEntries_loop0_ends (a0, a0, x0) 0)) (
  let x1 := impl_AreEntries_loop0 (a0, a0, x0) 0;
  .ask ((isL x1))
  (
   .leaf false)
  (
   let x2 := ((List.length a0 : Nat) : Int);
   let x3 := decide (x2 ≤ 16);
   .leaf x3))
def impl_AreEntries (a0 : List Entry) : Bool := (impl_AreEntries_tree a0).val
def impl_AreEntries_need (a0 : List Entry) : Bool := (impl_AreEntries_tree a0).ok
def impl_AreEntries_mk (p : Bool) : Ret := ⟨.bool p, []⟩
def impl_AreEntries_c0 : Con := fun args => match args with
  | [.vslc 1 .entry a0] => some (.need (impl_AreEntries_need a0) (.leaf (impl_AreEntries_mk (impl_AreEntries a0))))
  | _ => none
set_option maxRecDepth 100000 in
theorem impl_AreEntries_ok0 : FunOK Tryz.prog 26 impl_AreEntries_c0.fn := by
  refine con_ok (Γ := gam [(43, impl_ValidEntry_c)]) (gam_cons impl_ValidEntry_ok (gam_nil)) tab_ok (by kernel_rfl) Tryz.func26 (by kernel_rfl) (by kernel_rfl) Tryz.ntmps26 Tryz.results26 (loops := impl_AreEntries_loops) (loopsOK_list (l := [lp Tryz.f26 0]) (by kernel_rfl) ⟨impl_AreEntries_l0, trivial⟩) 100000 fun args t h => ?_
  unfold impl_AreEntries_c0 at h
  split at h
  · rename_i a0
    cases h
    exact ⟨rfl, agree_need (mk := impl_AreEntries_mk) (t := impl_AreEntries_tree a0) (by unfold Agree; kernel_rfl)⟩
  · cases h
def impl_AreEntries_c : Con := fun args => impl_AreEntries_c0 (norms 0 [.slc .entry] args)
set_option maxRecDepth 100000 in
theorem impl_AreEntries_ok : FunOK Tryz.prog 26 impl_AreEntries_c.fn := con_norm [.slc .entry] impl_AreEntries_ok0

/-- internal/stringslite.Cut -/
def internal_stringslite_Cut_k58_tree (a0 : (List UInt8)) : DT ((List UInt8) × (List UInt8) × Bool) :=
  let x0 := internal_stringslite_Index_k58 a0;
  let x1 := decide (x0 ≥ 0);
  .ask x1
  (
   .need ((decide (0 ≤ x0) && decide (x0 ≤ ((List.length a0 : Nat) : Int)))) (
   let x2 := List.drop 0 (List.take (Int.toNat x0) a0);
   let x3 := IntKind.wrap .i64 (x0 + 1);
   .need ((decide (0 ≤ x3) && decide (x3 ≤ (((List.length a0) : Nat) : Int)))) (
   let x4 := List.drop (Int.toNat x3) (List.take (List.length a0) a0);
   .leaf (x2, x4, true))))
  (
   .leaf (a0, [], false))
def internal_stringslite_Cut_k58 (a0 : (List UInt8)) : (List UInt8) × (List UInt8) × Bool := (internal_stringslite_Cut_k58_tree a0).val
def internal_stringslite_Cut_k58_need (a0 : (List UInt8)) : Bool := (internal_stringslite_Cut_k58_tree a0).ok
def internal_stringslite_Cut_k58_mk (p : (List UInt8) × (List UInt8) × Bool) : Ret := ⟨.tup [.str p.1, .str p.2.1, .bool p.2.2], []⟩
def internal_stringslite_Cut_k58_c : Con := fun args => match args with
  | [.str a0, .str a1] => bif decide (a1 = ([58] : List UInt8)) then (some (.need (internal_stringslite_Cut_k58_need a0) (.leaf (internal_stringslite_Cut_k58_mk (internal_stringslite_Cut_k58 a0))))) else none
  | _ => none
set_option maxRecDepth 100000 in
theorem internal_stringslite_Cut_k58_ok : FunOK Tryz.prog 40 internal_stringslite_Cut_k58_c.fn := by
  refine con_ok (Γ := gam [(56, internal_stringslite_Index_k58_c)]) (gam_cons internal_stringslite_Index_k58_ok (gam_nil)) tab_ok (by kernel_rfl) Tryz.func40 (by kernel_rfl) (by kernel_rfl) Tryz.ntmps40 Tryz.results40 (loopsOK_none rfl _) 100000 fun args t h => ?_
  unfold internal_stringslite_Cut_k58_c at h
  split at h
  · rename_i a0 a1
    obtain ⟨hk1, h⟩ := bif_some h
    subst hk1
    cases h
    exact ⟨rfl, agree_need (mk := internal_stringslite_Cut_k58_mk) (t := internal_stringslite_Cut_k58_tree a0) (by unfold Agree; kernel_rfl)⟩
  · cases h

/-- strings.Cut -/
def strings_Cut_k58_tree (a0 : (List UInt8)) : DT ((List UInt8) × (List UInt8) × Bool) :=
  .need ((internal_stringslite_Cut_k58_need a0)) (
  let x0 := internal_stringslite_Cut_k58 a0;
  .leaf (x0.1, x0.2.1, x0.2.2))
def strings_Cut_k58 (a0 : (List UInt8)) : (List UInt8) × (List UInt8) × Bool := (strings_Cut_k58_tree a0).val
def strings_Cut_k58_need (a0 : (List UInt8)) : Bool := (strings_Cut_k58_tree a0).ok
def strings_Cut_k58_mk (p : (List UInt8) × (List UInt8) × Bool) : Ret := ⟨.tup [.str p.1, .str p.2.1, .bool p.2.2], []⟩
def strings_Cut_k58_c : Con := fun args => match args with
  | [.str a0, .str a1] => bif decide (a1 = ([58] : List UInt8)) then (some (.need (strings_Cut_k58_need a0) (.leaf (strings_Cut_k58_mk (strings_Cut_k58 a0))))) else none
  | _ => none
set_option maxRecDepth 100000 in
theorem strings_Cut_k58_ok : FunOK Tryz.prog 23 strings_Cut_k58_c.fn := by
  refine con_ok (Γ := gam [(40, internal_stringslite_Cut_k58_c)]) (gam_cons internal_stringslite_Cut_k58_ok (gam_nil)) tab_ok (by kernel_rfl) Tryz.func23 (by kernel_rfl) (by kernel_rfl) Tryz.ntmps23 Tryz.results23 (loopsOK_none rfl _) 100000 fun args t h => ?_
  unfold strings_Cut_k58_c at h
  split at h
  · rename_i a0 a1
    obtain ⟨hk1, h⟩ := bif_some h
    subst hk1
    cases h
    exact ⟨rfl, agree_need (mk := strings_Cut_k58_mk) (t := strings_Cut_k58_tree a0) (by unfold Agree; kernel_rfl)⟩
  · cases h

/-- a loop of impl_ReadEntries -/
def impl_ReadEntries_loop0_step (p : Int × List (List UInt8)) (s : Int × List Entry) : Round (Int × List Entry) ((Unit) ⊕ (List Entry)) :=
  let x0 := decide (s.1 < p.1);
  .ask x0
  (
   .need ((decide (0 ≤ s.1) && decide (s.1 < ((List.length p.2 : Nat) : Int)))) (
   .need ((decide ((Int.toNat s.1) < List.length p.2))) (
   let x1 := List.getD p.2 (Int.toNat s.1) default;
   .need ((strings_Cut_k58_need x1)) (
   let x2 := strings_Cut_k58 x1;
   .need ((impl_ReadNumbers_need x2.2.1)) (
   let x3 := impl_ReadNumbers x2.2.1;
   .ask ((isL x3))
   (
    .ask (!x2.2.2)
    (
     .leaf (.inr (.inl ()), []))
    (
     .skip (
     .skip (
     let x4 := ((List.length (leftD x3) : Nat) : Int);
     .skip (
     let x5 := (x4 != 7);
     .skip (
     .ask x5
     (
      .leaf (.inr (.inl ()), []))
     (
      .need ((decide (0 ≤ 0) && decide (0 < ((List.length (leftD x3) : Nat) : Int)))) (
      .need ((decide (0 < List.length (leftD x3)))) (
      let x6 := List.getD (leftD x3) 0 default;
      .need ((decide (0 ≤ 1) && decide (1 ≤ (((List.length (leftD x3)) : Nat) : Int)))) (
      .need ((decide (1 + ((List.length (leftD x3)) - 1) ≤ List.length (leftD x3)))) (
      let x7 := List.take ((List.length (leftD x3)) - 1) (List.drop 1 (leftD x3));
      .need ((impl_orbitFrom_need x7)) (
      let x8 := impl_orbitFrom x7;
      .need ((decide ((List.length s.2 + List.length [(⟨x2.1, x6, ⟨x8.Long, x8.Round, x8.Tilt, x8.Node, x8.Peri, x8.Phase⟩⟩ : Entry)]) * 48 ≤ 140737488355328) && decide (List.length s.2 + List.length [(⟨x2.1, x6, ⟨x8.Long, x8.Round, x8.Tilt, x8.Node, x8.Peri, x8.Phase⟩⟩ : Entry)] ≤ 9223372036854775807))) (
      let x9 := s.2 ++ [(⟨x2.1, x6, ⟨x8.Long, x8.Round, x8.Tilt, x8.Node, x8.Peri, x8.Phase⟩⟩ : Entry)];
      let x10 := IntKind.wrap .i64 (s.1 + 1);
      .leaf (.inl (x10, x9), [330, 1]))))))))))))))
   (
    .ask (!x2.2.2)
    (
     .leaf (.inr (.inl ()), []))
    (
     .skip (
     .skip (
     .skip (
     .skip (
     .leaf (.inr (.inl ()), []))))))))))))
  (
   .leaf (.inr (.inr s.2), [0]))
def impl_ReadEntries_loop0_L (p : Int × List (List UInt8)) : LoopS (Int × List Entry) ((Unit) ⊕ (List Entry)) := { tl := fun s => [.junk, .junk, .junk, .junk, .own 0, .junk, .junk, .junk, .junk, .junk, .junk, .junk, .junk, .junk, .own 1, .int .i64 p.1, .int .i64 s.1], hl := fun s => [some (.typed 56 .entry s.2), some (.typed 9 .str p.2)], ex := fun r => match r with | .inl r => .ret | .inr r => .exit 0, otl := fun r => match r with | .inl r => [.junk, .junk, .nils, .bool false] | .inr r => [.junk, .junk, .junk, .junk, .own 0], ohl := fun r => match r with | .inl r => [] | .inr r => [some (.typed 56 .entry r)] }
def impl_ReadEntries_loop0_ext : St → Option ((Int × List (List UInt8)) × (Int × List Entry) × List Nat) := fun S => match (S.tm 4).unK, (S.tm 14).unK, (S.tm 15).unK, (S.tm 16).unK with
  | .own i0, .own i1, .int .i64 q0, .int .i64 q1 => (match S.hp i0 with
    | some (.typed 56 .entry q2) => (match S.hp i1 with
    | some (.typed 9 .str q3) => (if nodup [i0, i1] = true then some ((q0, q3), (q1, q2), [i0, i1]) else none)
    | _ => none)
    | _ => none)
  | _, _, _, _ => none
def impl_ReadEntries_loop0_post (p : Int × List (List UInt8)) (r : (Unit) ⊕ (List Entry)) : DT (Ex × St) := .ask (isL r) (.leaf (.ret, LSt [.junk, .junk, .nils, .bool false] [])) (.leaf (.exit 0, LSt [.junk, .junk, .junk, .junk, .own 0] [some (.typed 56 .entry ((rightD r)))]))
def impl_ReadEntries_loop0 (p : Int × List (List UInt8)) (s : Int × List Entry) : (Unit) ⊕ (List Entry) := loopVal (impl_ReadEntries_loop0_step p) s
def impl_ReadEntries_loop0_ends (p : Int × List (List UInt8)) (s : Int × List Entry) : Bool := loopEnds (impl_ReadEntries_loop0_step p) s
def impl_ReadEntries_loop0_F : LoopF := loopF impl_ReadEntries_loop0_step impl_ReadEntries_loop0_ext impl_ReadEntries_loop0_post
theorem impl_ReadEntries_loop0_hext : ∀ S p s fl, impl_ReadEntries_loop0_ext S = some (p, s, fl) → Norm S fl ((impl_ReadEntries_loop0_L p).tl s) ((impl_ReadEntries_loop0_L p).hl s) (impl_ReadEntries_loop0_L p).gl := by
  intro S p s fl h
  unfold impl_ReadEntries_loop0_ext at h
  (repeat' split at h) <;> first
    | (cases h; constructor <;> simp_all [impl_ReadEntries_loop0_L, keepT, keepH, rens, renH, PV.ren, Blk.ren, fOf, lget, nodup, natIn, lenEq, gtm, PV.unK])
    | cases h
theorem impl_ReadEntries_loop0_hpost : ∀ p r e S', (impl_ReadEntries_loop0_post p r).get = some (e, S') → e = (impl_ReadEntries_loop0_L p).ex r ∧ S' = LSt ((impl_ReadEntries_loop0_L p).otl r) ((impl_ReadEntries_loop0_L p).ohl r) ((impl_ReadEntries_loop0_L p).ogl r) := by
  intro p r e S' h
  unfold impl_ReadEntries_loop0_post at h
  cases r <;> (simp only [isL, DT.get, Option.some.injEq, Prod.mk.injEq] at h; exact ⟨h.1.symm, h.2.symm⟩)

def impl_ReadEntries_loops : Nat → Option LoopF := loopTab [(3, impl_ReadEntries_loop0_F)]
set_option maxRecDepth 100000 in
theorem impl_ReadEntries_l0 : LoopOK Tryz.prog ⟨gam [(16, impl_unslashed_c), (26, impl_AreEntries_c), (23, strings_Cut_k58_c), (24, impl_ReadNumbers_c), (25, impl_orbitFrom_c)], tab, 58, impl_ReadEntries_loops⟩ (lp Tryz.f11 0) :=
  loopOK_some (F := impl_ReadEntries_loop0_F) (by kernel_rfl) (loopF_ok (E := ⟨gam [(16, impl_unslashed_c), (26, impl_AreEntries_c), (23, strings_Cut_k58_c), (24, impl_ReadNumbers_c), (25, impl_orbitFrom_c)], tab, 58, impl_ReadEntries_loops⟩) ⟨gam_cons impl_unslashed_ok (gam_cons impl_AreEntries_ok (gam_cons strings_Cut_k58_ok (gam_cons impl_ReadNumbers_ok (gam_cons impl_orbitFrom_ok (gam_nil))))), tab_ok, by kernel_rfl⟩ (fuel := 100000) (loopsOK_list (l := []) (by kernel_rfl) trivial) (L := impl_ReadEntries_loop0_L) (fun p s => by unfold AgreeL; exact ⟨by kernel_rfl, by kernel_rfl⟩) (fun _ r h => by cases r <;> exact Ex.noConfusion h) impl_ReadEntries_loop0_hext impl_ReadEntries_loop0_hpost)
/-- loop.example/g01284/impl.ReadEntries -/
def impl_ReadEntries_tree (a0 : (List UInt8)) : DT ((Unit) ⊕ (List Entry)) :=
  .need ((impl_unslashed_need a0)) (
  let x0 := impl_unslashed a0;
  .ask ((isL x0))
  (
   .skip (
   .need ((impl_AreEntries_need [])) (
   let x1 := impl_AreEntries [];
   .ask (!x1)
   (
    .leaf (.inl ()))
   (
    .leaf (.inr [])))))
  (
   let x1 := ((List.length (rightD x0) : Nat) : Int);
   .need ((impl_ReadEntries_loop0_ends (x1, (rightD x0)) (0, []))) (
   let x2 := impl_ReadEntries_loop0 (x1, (rightD x0)) (0, []);
   .ask ((isL x2))
   (
    .leaf (.inl ()))
   (
    .need ((impl_AreEntries_need ((rightD x2)))) (
    let x3 := impl_AreEntries ((rightD x2));
    .ask (!x3)
    (
     .leaf (.inl ()))
    (
     .leaf (.inr ((rightD x2)))))))))
def impl_ReadEntries (a0 : (List UInt8)) : (Unit) ⊕ (List Entry) := (impl_ReadEntries_tree a0).val
def impl_ReadEntries_need (a0 : (List UInt8)) : Bool := (impl_ReadEntries_tree a0).ok
def impl_ReadEntries_mk0 (p : Unit) : Ret := ⟨.tup [.nils, .bool false], []⟩
def impl_ReadEntries_mk1 (p : List Entry) : Ret := ⟨.tup [.own 0, .bool true], [.typed 56 .entry p]⟩
def impl_ReadEntries_mk : (Unit) ⊕ (List Entry) → Ret := fun v => match v with
  | (.inl p) => impl_ReadEntries_mk0 p
  | (.inr p) => impl_ReadEntries_mk1 p
def impl_ReadEntries_forms (v : (Unit) ⊕ (List Entry)) : DT Ret := .ask (isL v) (.leaf (impl_ReadEntries_mk0 (leftD v))) (.leaf (impl_ReadEntries_mk1 (rightD v)))
theorem impl_ReadEntries_forms_get : ∀ v, (impl_ReadEntries_forms v).get = some (impl_ReadEntries_mk v) := by
  intro v
  rcases v with v | v <;> rfl
def impl_ReadEntries_c : Con := fun args => match args with
  | [.str a0] => some (.need (impl_ReadEntries_need a0) (impl_ReadEntries_forms (impl_ReadEntries a0)))
  | _ => none
set_option maxRecDepth 100000 in
theorem impl_ReadEntries_ok : FunOK Tryz.prog 11 impl_ReadEntries_c.fn := by
  refine con_ok (Γ := gam [(16, impl_unslashed_c), (26, impl_AreEntries_c), (23, strings_Cut_k58_c), (24, impl_ReadNumbers_c), (25, impl_orbitFrom_c)]) (gam_cons impl_unslashed_ok (gam_cons impl_AreEntries_ok (gam_cons strings_Cut_k58_ok (gam_cons impl_ReadNumbers_ok (gam_cons impl_orbitFrom_ok (gam_nil)))))) tab_ok (by kernel_rfl) Tryz.func11 (by kernel_rfl) (by kernel_rfl) Tryz.ntmps11 Tryz.results11 (loops := impl_ReadEntries_loops) (loopsOK_list (l := [lp Tryz.f11 0]) (by kernel_rfl) ⟨impl_ReadEntries_l0, trivial⟩) 100000 fun args t h => ?_
  unfold impl_ReadEntries_c at h
  split at h
  · rename_i a0
    cases h
    exact ⟨rfl, agree_forms (mk := impl_ReadEntries_mk) (t := impl_ReadEntries_tree a0) (by unfold Agree; kernel_rfl) (fun h => h) (impl_ReadEntries_forms_get _)⟩
  · cases h

/-- loop.example/g01284/laws.eqOrbit -/
def laws_eqOrbit_tree (a0 : Orbit) (a1 : Orbit) : DT (Bool) :=
  .need ((fconvOk .f32 a0.Long .f64)) (
  let x0 := fconv .f32 a0.Long .f64;
  .need ((fconvOk .f32 a1.Long .f64)) (
  let x1 := fconv .f32 a1.Long .f64;
  let x2 := laws_sameFloat x0 x1;
  .ask (!x2)
  (
   .leaf false)
  (
   .need ((fconvOk .f32 a0.Round .f64)) (
   let x3 := fconv .f32 a0.Round .f64;
   .need ((fconvOk .f32 a1.Round .f64)) (
   let x4 := fconv .f32 a1.Round .f64;
   let x5 := laws_sameFloat x3 x4;
   .ask (!x5)
   (
    .leaf false)
   (
    .need ((fconvOk .f32 a0.Tilt .f64)) (
    let x6 := fconv .f32 a0.Tilt .f64;
    .need ((fconvOk .f32 a1.Tilt .f64)) (
    let x7 := fconv .f32 a1.Tilt .f64;
    let x8 := laws_sameFloat x6 x7;
    .ask (!x8)
    (
     .leaf false)
    (
     .need ((fconvOk .f32 a0.Node .f64)) (
     let x9 := fconv .f32 a0.Node .f64;
     .need ((fconvOk .f32 a1.Node .f64)) (
     let x10 := fconv .f32 a1.Node .f64;
     let x11 := laws_sameFloat x9 x10;
     .ask (!x11)
     (
      .leaf false)
     (
      .need ((fconvOk .f32 a0.Peri .f64)) (
      let x12 := fconv .f32 a0.Peri .f64;
      .need ((fconvOk .f32 a1.Peri .f64)) (
      let x13 := fconv .f32 a1.Peri .f64;
      let x14 := laws_sameFloat x12 x13;
      .ask (!x14)
      (
       .leaf false)
      (
       .need ((fconvOk .f32 a0.Phase .f64)) (
       let x15 := fconv .f32 a0.Phase .f64;
       .need ((fconvOk .f32 a1.Phase .f64)) (
       let x16 := fconv .f32 a1.Phase .f64;
       let x17 := laws_sameFloat x15 x16;
       .ask (!x17)
       (
        .leaf false)
       (
        .leaf true))))))))))))))))))
def laws_eqOrbit (a0 : Orbit) (a1 : Orbit) : Bool := (laws_eqOrbit_tree a0 a1).val
def laws_eqOrbit_need (a0 : Orbit) (a1 : Orbit) : Bool := (laws_eqOrbit_tree a0 a1).ok
def laws_eqOrbit_mk (p : Bool) : Ret := ⟨.bool p, []⟩
def laws_eqOrbit_c : Con := fun args => match args with
  | [.agg [.flt .f32 a0_0, .flt .f32 a0_1, .flt .f32 a0_2, .flt .f32 a0_3, .flt .f32 a0_4, .flt .f32 a0_5], .agg [.flt .f32 a1_0, .flt .f32 a1_1, .flt .f32 a1_2, .flt .f32 a1_3, .flt .f32 a1_4, .flt .f32 a1_5]] => some (.need (laws_eqOrbit_need (⟨a0_0, a0_1, a0_2, a0_3, a0_4, a0_5⟩ : Orbit) (⟨a1_0, a1_1, a1_2, a1_3, a1_4, a1_5⟩ : Orbit)) (.leaf (laws_eqOrbit_mk (laws_eqOrbit (⟨a0_0, a0_1, a0_2, a0_3, a0_4, a0_5⟩ : Orbit) (⟨a1_0, a1_1, a1_2, a1_3, a1_4, a1_5⟩ : Orbit)))))
  | _ => none
set_option maxRecDepth 100000 in
theorem laws_eqOrbit_ok : FunOK Tryz.prog 44 laws_eqOrbit_c.fn := by
  refine con_ok (Γ := gam [(36, laws_sameFloat_c)]) (gam_cons laws_sameFloat_ok (gam_nil)) tab_ok (by kernel_rfl) Tryz.func44 (by kernel_rfl) (by kernel_rfl) Tryz.ntmps44 Tryz.results44 (loopsOK_none rfl _) 100000 fun args t h => ?_
  unfold laws_eqOrbit_c at h
  split at h
  · rename_i a0_0 a0_1 a0_2 a0_3 a0_4 a0_5 a1_0 a1_1 a1_2 a1_3 a1_4 a1_5
    cases h
    exact ⟨rfl, agree_need (mk := laws_eqOrbit_mk) (t := laws_eqOrbit_tree (⟨a0_0, a0_1, a0_2, a0_3, a0_4, a0_5⟩ : Orbit) (⟨a1_0, a1_1, a1_2, a1_3, a1_4, a1_5⟩ : Orbit)) (by unfold Agree; kernel_rfl)⟩
  · cases h

/-- loop.example/g01284/laws.eqEntry -/
def laws_eqEntry_tree (a0 : Entry) (a1 : Entry) : DT (Bool) :=
  let x0 := (!(a0.Name == a1.Name));
  .ask x0
  (
   .leaf false)
  (
   .need ((fconvOk .f32 a0.Mass .f64)) (
   let x1 := fconv .f32 a0.Mass .f64;
   .need ((fconvOk .f32 a1.Mass .f64)) (
   let x2 := fconv .f32 a1.Mass .f64;
   let x3 := laws_sameFloat x1 x2;
   .ask (!x3)
   (
    .leaf false)
   (
    .need ((laws_eqOrbit_need (⟨a0.Orb.Long, a0.Orb.Round, a0.Orb.Tilt, a0.Orb.Node, a0.Orb.Peri, a0.Orb.Phase⟩ : Orbit) (⟨a1.Orb.Long, a1.Orb.Round, a1.Orb.Tilt, a1.Orb.Node, a1.Orb.Peri, a1.Orb.Phase⟩ : Orbit))) (
    let x4 := laws_eqOrbit (⟨a0.Orb.Long, a0.Orb.Round, a0.Orb.Tilt, a0.Orb.Node, a0.Orb.Peri, a0.Orb.Phase⟩ : Orbit) (⟨a1.Orb.Long, a1.Orb.Round, a1.Orb.Tilt, a1.Orb.Node, a1.Orb.Peri, a1.Orb.Phase⟩ : Orbit);
    .ask (!x4)
    (
     .leaf false)
    (
     .leaf true))))))
def laws_eqEntry (a0 : Entry) (a1 : Entry) : Bool := (laws_eqEntry_tree a0 a1).val
def laws_eqEntry_need (a0 : Entry) (a1 : Entry) : Bool := (laws_eqEntry_tree a0 a1).ok
def laws_eqEntry_mk (p : Bool) : Ret := ⟨.bool p, []⟩
def laws_eqEntry_c : Con := fun args => match args with
  | [.agg [.str a0_0, .flt .f32 a0_1, .flt .f32 a0_2, .flt .f32 a0_3, .flt .f32 a0_4, .flt .f32 a0_5, .flt .f32 a0_6, .flt .f32 a0_7], .agg [.str a1_0, .flt .f32 a1_1, .flt .f32 a1_2, .flt .f32 a1_3, .flt .f32 a1_4, .flt .f32 a1_5, .flt .f32 a1_6, .flt .f32 a1_7]] => some (.need (laws_eqEntry_need (⟨a0_0, a0_1, ⟨a0_2, a0_3, a0_4, a0_5, a0_6, a0_7⟩⟩ : Entry) (⟨a1_0, a1_1, ⟨a1_2, a1_3, a1_4, a1_5, a1_6, a1_7⟩⟩ : Entry)) (.leaf (laws_eqEntry_mk (laws_eqEntry (⟨a0_0, a0_1, ⟨a0_2, a0_3, a0_4, a0_5, a0_6, a0_7⟩⟩ : Entry) (⟨a1_0, a1_1, ⟨a1_2, a1_3, a1_4, a1_5, a1_6, a1_7⟩⟩ : Entry)))))
  | _ => none
set_option maxRecDepth 100000 in
theorem laws_eqEntry_ok : FunOK Tryz.prog 27 laws_eqEntry_c.fn := by
  refine con_ok (Γ := gam [(36, laws_sameFloat_c), (44, laws_eqOrbit_c)]) (gam_cons laws_sameFloat_ok (gam_cons laws_eqOrbit_ok (gam_nil))) tab_ok (by kernel_rfl) Tryz.func27 (by kernel_rfl) (by kernel_rfl) Tryz.ntmps27 Tryz.results27 (loopsOK_none rfl _) 100000 fun args t h => ?_
  unfold laws_eqEntry_c at h
  split at h
  · rename_i a0_0 a0_1 a0_2 a0_3 a0_4 a0_5 a0_6 a0_7 a1_0 a1_1 a1_2 a1_3 a1_4 a1_5 a1_6 a1_7
    cases h
    exact ⟨rfl, agree_need (mk := laws_eqEntry_mk) (t := laws_eqEntry_tree (⟨a0_0, a0_1, ⟨a0_2, a0_3, a0_4, a0_5, a0_6, a0_7⟩⟩ : Entry) (⟨a1_0, a1_1, ⟨a1_2, a1_3, a1_4, a1_5, a1_6, a1_7⟩⟩ : Entry)) (by unfold Agree; kernel_rfl)⟩
  · cases h

/-- a loop of laws_eqEntryS -/
def laws_eqEntryS_loop0_step (p : List Entry × List Entry) (s : Int) : Round (Int) ((Unit) ⊕ (Unit)) :=
  let x0 := ((List.length p.1 : Nat) : Int);
  let x1 := decide (s < x0);
  .ask x1
  (
   .need ((decide (0 ≤ s) && decide (s < ((List.length p.1 : Nat) : Int)))) (
   let x2 := List.getD p.1 (Int.toNat s) default;
   .need ((decide (0 ≤ s) && decide (s < ((List.length p.2 : Nat) : Int)))) (
   let x3 := List.getD p.2 (Int.toNat s) default;
   .need ((laws_eqEntry_need (⟨x2.Name, x2.Mass, ⟨x2.Orb.Long, x2.Orb.Round, x2.Orb.Tilt, x2.Orb.Node, x2.Orb.Peri, x2.Orb.Phase⟩⟩ : Entry) (⟨x3.Name, x3.Mass, ⟨x3.Orb.Long, x3.Orb.Round, x3.Orb.Tilt, x3.Orb.Node, x3.Orb.Peri, x3.Orb.Phase⟩⟩ : Entry))) (
   let x4 := laws_eqEntry (⟨x2.Name, x2.Mass, ⟨x2.Orb.Long, x2.Orb.Round, x2.Orb.Tilt, x2.Orb.Node, x2.Orb.Peri, x2.Orb.Phase⟩⟩ : Entry) (⟨x3.Name, x3.Mass, ⟨x3.Orb.Long, x3.Orb.Round, x3.Orb.Tilt, x3.Orb.Node, x3.Orb.Peri, x3.Orb.Phase⟩⟩ : Entry);
   .ask (!x4)
   (
    .leaf (.inr (.inl ()), []))
   (
    let x5 := IntKind.wrap .i64 (s + 1);
    .leaf (.inl x5, []))))))
  (
   .leaf (.inr (.inr ()), []))
def laws_eqEntryS_loop0_L (p : List Entry × List Entry) : LoopS (Int) ((Unit) ⊕ (Unit)) := { tl := fun s => [.vslc 1 .entry p.1, .vslc 2 .entry p.2, .junk, .junk, .junk, .int .i64 s], hl := fun s => [], ex := fun r => match r with | .inl r => .ret | .inr r => .exit 0, otl := fun r => match r with | .inl r => [.junk, .junk, .junk, .junk, .bool false] | .inr r => [.junk], ohl := fun r => match r with | .inl r => [] | .inr r => [] }
def laws_eqEntryS_loop0_ext : St → Option ((List Entry × List Entry) × (Int) × List Nat) := fun S => match (S.tm 0).unK, (S.tm 1).unK, (S.tm 5).unK with
  | .vslc 1 .entry q0, .vslc 2 .entry q1, .int .i64 q2 => some ((q0, q1), q2, [])
  | _, _, _ => none
def laws_eqEntryS_loop0_post (p : List Entry × List Entry) (r : (Unit) ⊕ (Unit)) : DT (Ex × St) := .ask (isL r) (.leaf (.ret, LSt [.junk, .junk, .junk, .junk, .bool false] [])) (.leaf (.exit 0, LSt [.junk] []))
def laws_eqEntryS_loop0 (p : List Entry × List Entry) (s : Int) : (Unit) ⊕ (Unit) := loopVal (laws_eqEntryS_loop0_step p) s
def laws_eqEntryS_loop0_ends (p : List Entry × List Entry) (s : Int) : Bool := loopEnds (laws_eqEntryS_loop0_step p) s
def laws_eqEntryS_loop0_F : LoopF := loopF laws_eqEntryS_loop0_step laws_eqEntryS_loop0_ext laws_eqEntryS_loop0_post
theorem laws_eqEntryS_loop0_hext : ∀ S p s fl, laws_eqEntryS_loop0_ext S = some (p, s, fl) → Norm S fl ((laws_eqEntryS_loop0_L p).tl s) ((laws_eqEntryS_loop0_L p).hl s) (laws_eqEntryS_loop0_L p).gl := by
  intro S p s fl h
  unfold laws_eqEntryS_loop0_ext at h
  (repeat' split at h) <;> first
    | (cases h; constructor <;> simp_all [laws_eqEntryS_loop0_L, keepT, keepH, rens, renH, PV.ren, Blk.ren, fOf, lget, nodup, natIn, lenEq, gtm, PV.unK])
    | cases h
theorem laws_eqEntryS_loop0_hpost : ∀ p r e S', (laws_eqEntryS_loop0_post p r).get = some (e, S') → e = (laws_eqEntryS_loop0_L p).ex r ∧ S' = LSt ((laws_eqEntryS_loop0_L p).otl r) ((laws_eqEntryS_loop0_L p).ohl r) ((laws_eqEntryS_loop0_L p).ogl r) := by
  intro p r e S' h
  unfold laws_eqEntryS_loop0_post at h
  cases r <;> (simp only [isL, DT.get, Option.some.injEq, Prod.mk.injEq] at h; exact ⟨h.1.symm, h.2.symm⟩)

def laws_eqEntryS_loops : Nat → Option LoopF := loopTab [(4, laws_eqEntryS_loop0_F)]
set_option maxRecDepth 100000 in
theorem laws_eqEntryS_l0 : LoopOK Tryz.prog ⟨gam [(27, laws_eqEntry_c)], tab, 27, laws_eqEntryS_loops⟩ (lp Tryz.f12 0) :=
  loopOK_some (F := laws_eqEntryS_loop0_F) (by kernel_rfl) (loopF_ok (E := ⟨gam [(27, laws_eqEntry_c)], tab, 27, laws_eqEntryS_loops⟩) ⟨gam_cons laws_eqEntry_ok (gam_nil), tab_ok, by kernel_rfl⟩ (fuel := 100000) (loopsOK_list (l := []) (by kernel_rfl) trivial) (L := laws_eqEntryS_loop0_L) (fun p s => by unfold AgreeL; exact ⟨by kernel_rfl, by kernel_rfl⟩) (fun _ r h => by cases r <;> exact Ex.noConfusion h) laws_eqEntryS_loop0_hext laws_eqEntryS_loop0_hpost)
/-- loop.example/g01284/laws.eqEntryS -/
def laws_eqEntryS_tree (a0 : List Entry) (a1 : List Entry) : DT (Bool) :=
  let x0 := ((List.length a0 : Nat) : Int);
  let x1 := ((List.length a1 : Nat) : Int);
  let x2 := (x0 != x1);
  .ask x2
  (
   .leaf false)
  (
   .need ((laws_eqEntryS_loop0_ends (a0, a1) 0)) (
   let x3 := laws_eqEntryS_loop0 (a0, a1) 0;
   .ask ((isL x3))
   (
    .leaf false)
   (
    .leaf true)))
def laws_eqEntryS (a0 : List Entry) (a1 : List Entry) : Bool := (laws_eqEntryS_tree a0 a1).val
def laws_eqEntryS_need (a0 : List Entry) (a1 : List Entry) : Bool := (laws_eqEntryS_tree a0 a1).ok
def laws_eqEntryS_mk (p : Bool) : Ret := ⟨.bool p, []⟩
def laws_eqEntryS_c0 : Con := fun args => match args with
  | [.vslc 1 .entry a0, .vslc 2 .entry a1] => some (.need (laws_eqEntryS_need a0 a1) (.leaf (laws_eqEntryS_mk (laws_eqEntryS a0 a1))))
  | _ => none
set_option maxRecDepth 100000 in
theorem laws_eqEntryS_ok0 : FunOK Tryz.prog 12 laws_eqEntryS_c0.fn := by
  refine con_ok (Γ := gam [(27, laws_eqEntry_c)]) (gam_cons laws_eqEntry_ok (gam_nil)) tab_ok (by kernel_rfl) Tryz.func12 (by kernel_rfl) (by kernel_rfl) Tryz.ntmps12 Tryz.results12 (loops := laws_eqEntryS_loops) (loopsOK_list (l := [lp Tryz.f12 0]) (by kernel_rfl) ⟨laws_eqEntryS_l0, trivial⟩) 100000 fun args t h => ?_
  unfold laws_eqEntryS_c0 at h
  split at h
  · rename_i a0 a1
    cases h
    exact ⟨rfl, agree_need (mk := laws_eqEntryS_mk) (t := laws_eqEntryS_tree a0 a1) (by unfold Agree; kernel_rfl)⟩
  · cases h
def laws_eqEntryS_c : Con := fun args => laws_eqEntryS_c0 (norms 0 [.slc .entry, .slc .entry] args)
set_option maxRecDepth 100000 in
theorem laws_eqEntryS_ok : FunOK Tryz.prog 12 laws_eqEntryS_c.fn := con_norm [.slc .entry, .slc .entry] laws_eqEntryS_ok0

/-- a loop of laws_markText -/
def laws_markText_loop0_step (p : Unit) (s : Int × (List UInt8)) : Round (Int × (List UInt8)) ((List UInt8)) :=
  let x0 := decide (s.1 > 0);
  .ask x0
  (
   .skip (
   let x1 := Int.tmod s.1 10;
   let x2 := IntKind.wrap .i64 (48 + x1);
   let x3 := IntKind.wrap .u8 x2;
   let x4 := strOf [x3];
   .need ((decide (List.length x4 + List.length s.2 ≤ 9223372036854775807))) (
   let x5 := x4 ++ s.2;
   .skip (
   let x6 := IntKind.wrap .i64 (Int.tdiv s.1 10);
   .leaf (.inl (x6, x5), [])))))
  (
   .leaf (.inr s.2, []))
def laws_markText_loop0_L (p : Unit) : LoopS (Int × (List UInt8)) ((List UInt8)) := { tl := fun s => [.int .i64 s.1, .junk, .junk, .str s.2], hl := fun s => [], ex := fun r => .exit 0, otl := fun r => [.junk, .junk, .junk, .str r], ohl := fun r => [] }
def laws_markText_loop0_ext : St → Option ((Unit) × (Int × (List UInt8)) × List Nat) := fun S => match (S.tm 0).unK, (S.tm 3).unK with
  | .int .i64 q0, .str q1 => some ((), (q0, q1), [])
  | _, _ => none
def laws_markText_loop0_post (p : Unit) (r : (List UInt8)) : DT (Ex × St) := .leaf (.exit 0, LSt [.junk, .junk, .junk, .str r] [])
def laws_markText_loop0 (p : Unit) (s : Int × (List UInt8)) : (List UInt8) := loopVal (laws_markText_loop0_step p) s
def laws_markText_loop0_ends (p : Unit) (s : Int × (List UInt8)) : Bool := loopEnds (laws_markText_loop0_step p) s
def laws_markText_loop0_F : LoopF := loopF laws_markText_loop0_step laws_markText_loop0_ext laws_markText_loop0_post
theorem laws_markText_loop0_hext : ∀ S p s fl, laws_markText_loop0_ext S = some (p, s, fl) → Norm S fl ((laws_markText_loop0_L p).tl s) ((laws_markText_loop0_L p).hl s) (laws_markText_loop0_L p).gl := by
  intro S p s fl h
  unfold laws_markText_loop0_ext at h
  (repeat' split at h) <;> first
    | (cases h; constructor <;> simp_all [laws_markText_loop0_L, keepT, keepH, rens, renH, PV.ren, Blk.ren, fOf, lget, nodup, natIn, lenEq, gtm, PV.unK])
    | cases h
theorem laws_markText_loop0_hpost : ∀ p r e S', (laws_markText_loop0_post p r).get = some (e, S') → e = (laws_markText_loop0_L p).ex r ∧ S' = LSt ((laws_markText_loop0_L p).otl r) ((laws_markText_loop0_L p).ohl r) ((laws_markText_loop0_L p).ogl r) := by
  intro p r e S' h
  unfold laws_markText_loop0_post at h
  simp only [DT.get, Option.some.injEq, Prod.mk.injEq] at h; exact ⟨h.1.symm, h.2.symm⟩

def laws_markText_loops : Nat → Option LoopF := loopTab [(4, laws_markText_loop0_F)]
set_option maxRecDepth 100000 in
theorem laws_markText_l0 : LoopOK Tryz.prog ⟨gam [], tab, 20, laws_markText_loops⟩ (lp Tryz.f28 0) :=
  loopOK_some (F := laws_markText_loop0_F) (by kernel_rfl) (loopF_ok (E := ⟨gam [], tab, 20, laws_markText_loops⟩) ⟨gam_nil, tab_ok, by kernel_rfl⟩ (fuel := 100000) (loopsOK_list (l := []) (by kernel_rfl) trivial) (L := laws_markText_loop0_L) (fun p s => by unfold AgreeL; exact ⟨by kernel_rfl, by kernel_rfl⟩) (fun _ _ h => Ex.noConfusion h) laws_markText_loop0_hext laws_markText_loop0_hpost)
/-- loop.example/g01284/laws.markText -/
def laws_markText_tree (a0 : Int) : DT ((List UInt8)) :=
  let x0 := decide (a0 ≤ 0);
  .ask x0
  (
   .leaf ([109, 48]))
  (
   .need ((laws_markText_loop0_ends () (a0, []))) (
   let x1 := laws_markText_loop0 () (a0, []);
   .need ((decide (List.length [109] + List.length x1 ≤ 9223372036854775807))) (
   let x2 := [109] ++ x1;
   .leaf x2)))
def laws_markText (a0 : Int) : (List UInt8) := (laws_markText_tree a0).val
def laws_markText_need (a0 : Int) : Bool := (laws_markText_tree a0).ok
def laws_markText_mk (p : (List UInt8)) : Ret := ⟨.str p, []⟩
def laws_markText_c : Con := fun args => match args with
  | [.int .i64 a0] => some (.need (laws_markText_need a0) (.leaf (laws_markText_mk (laws_markText a0))))
  | _ => none
set_option maxRecDepth 100000 in
theorem laws_markText_ok : FunOK Tryz.prog 28 laws_markText_c.fn := by
  refine con_ok (Γ := gam []) (gam_nil) tab_ok (by kernel_rfl) Tryz.func28 (by kernel_rfl) (by kernel_rfl) Tryz.ntmps28 Tryz.results28 (loops := laws_markText_loops) (loopsOK_list (l := [lp Tryz.f28 0]) (by kernel_rfl) ⟨laws_markText_l0, trivial⟩) 100000 fun args t h => ?_
  unfold laws_markText_c at h
  split at h
  · rename_i a0
    cases h
    exact ⟨rfl, agree_need (mk := laws_markText_mk) (t := laws_markText_tree a0) (by unfold Agree; kernel_rfl)⟩
  · cases h

/-- a loop of laws_markEntryS -/
def laws_markEntryS_loop0_step (p : Unit) (s : Int × Int × List Entry) : Round (Int × Int × List Entry) (Int × List Entry) :=
  let x0 := ((List.length s.2.2 : Nat) : Int);
  let x1 := decide (s.2.1 < x0);
  .ask x1
  (
   .need ((laws_markText_need s.1)) (
   let x2 := laws_markText s.1;
   .need ((decide (0 ≤ s.2.1) && decide (s.2.1 < ((List.length s.2.2 : Nat) : Int)))) (
   .need ((decide ((Int.toNat s.2.1) < List.length s.2.2))) (
   let x3 := List.set s.2.2 (Int.toNat s.2.1) (⟨x2, (List.getD s.2.2 (Int.toNat s.2.1) default).Mass, ⟨(List.getD s.2.2 (Int.toNat s.2.1) default).Orb.Long, (List.getD s.2.2 (Int.toNat s.2.1) default).Orb.Round, (List.getD s.2.2 (Int.toNat s.2.1) default).Orb.Tilt, (List.getD s.2.2 (Int.toNat s.2.1) default).Orb.Node, (List.getD s.2.2 (Int.toNat s.2.1) default).Orb.Peri, (List.getD s.2.2 (Int.toNat s.2.1) default).Orb.Phase⟩⟩ : Entry);
   let x4 := IntKind.wrap .i64 (s.1 + 1);
   let x5 := fofInt .f32 x4;
   .need ((decide (0 ≤ s.2.1) && decide (s.2.1 < ((List.length x3 : Nat) : Int)))) (
   .need ((decide ((Int.toNat s.2.1) < List.length x3))) (
   let x6 := List.set x3 (Int.toNat s.2.1) (⟨(List.getD x3 (Int.toNat s.2.1) default).Name, x5, ⟨(List.getD x3 (Int.toNat s.2.1) default).Orb.Long, (List.getD x3 (Int.toNat s.2.1) default).Orb.Round, (List.getD x3 (Int.toNat s.2.1) default).Orb.Tilt, (List.getD x3 (Int.toNat s.2.1) default).Orb.Node, (List.getD x3 (Int.toNat s.2.1) default).Orb.Peri, (List.getD x3 (Int.toNat s.2.1) default).Orb.Phase⟩⟩ : Entry);
   let x7 := IntKind.wrap .i64 (x4 + 1);
   let x8 := fofInt .f32 x7;
   .need ((decide (0 ≤ s.2.1) && decide (s.2.1 < ((List.length x6 : Nat) : Int)))) (
   .need ((decide ((Int.toNat s.2.1) < List.length x6))) (
   let x9 := List.set x6 (Int.toNat s.2.1) (⟨(List.getD x6 (Int.toNat s.2.1) default).Name, (List.getD x6 (Int.toNat s.2.1) default).Mass, ⟨x8, (List.getD x6 (Int.toNat s.2.1) default).Orb.Round, (List.getD x6 (Int.toNat s.2.1) default).Orb.Tilt, (List.getD x6 (Int.toNat s.2.1) default).Orb.Node, (List.getD x6 (Int.toNat s.2.1) default).Orb.Peri, (List.getD x6 (Int.toNat s.2.1) default).Orb.Phase⟩⟩ : Entry);
   let x10 := IntKind.wrap .i64 (x7 + 1);
   let x11 := fofInt .f32 x10;
   .need ((decide (0 ≤ s.2.1) && decide (s.2.1 < ((List.length x9 : Nat) : Int)))) (
   .need ((decide ((Int.toNat s.2.1) < List.length x9))) (
   let x12 := List.set x9 (Int.toNat s.2.1) (⟨(List.getD x9 (Int.toNat s.2.1) default).Name, (List.getD x9 (Int.toNat s.2.1) default).Mass, ⟨(List.getD x9 (Int.toNat s.2.1) default).Orb.Long, x11, (List.getD x9 (Int.toNat s.2.1) default).Orb.Tilt, (List.getD x9 (Int.toNat s.2.1) default).Orb.Node, (List.getD x9 (Int.toNat s.2.1) default).Orb.Peri, (List.getD x9 (Int.toNat s.2.1) default).Orb.Phase⟩⟩ : Entry);
   let x13 := IntKind.wrap .i64 (x10 + 1);
   let x14 := fofInt .f32 x13;
   .need ((decide (0 ≤ s.2.1) && decide (s.2.1 < ((List.length x12 : Nat) : Int)))) (
   .need ((decide ((Int.toNat s.2.1) < List.length x12))) (
   let x15 := List.set x12 (Int.toNat s.2.1) (⟨(List.getD x12 (Int.toNat s.2.1) default).Name, (List.getD x12 (Int.toNat s.2.1) default).Mass, ⟨(List.getD x12 (Int.toNat s.2.1) default).Orb.Long, (List.getD x12 (Int.toNat s.2.1) default).Orb.Round, x14, (List.getD x12 (Int.toNat s.2.1) default).Orb.Node, (List.getD x12 (Int.toNat s.2.1) default).Orb.Peri, (List.getD x12 (Int.toNat s.2.1) default).Orb.Phase⟩⟩ : Entry);
   let x16 := IntKind.wrap .i64 (x13 + 1);
   let x17 := fofInt .f32 x16;
   .need ((decide (0 ≤ s.2.1) && decide (s.2.1 < ((List.length x15 : Nat) : Int)))) (
   .need ((decide ((Int.toNat s.2.1) < List.length x15))) (
   let x18 := List.set x15 (Int.toNat s.2.1) (⟨(List.getD x15 (Int.toNat s.2.1) default).Name, (List.getD x15 (Int.toNat s.2.1) default).Mass, ⟨(List.getD x15 (Int.toNat s.2.1) default).Orb.Long, (List.getD x15 (Int.toNat s.2.1) default).Orb.Round, (List.getD x15 (Int.toNat s.2.1) default).Orb.Tilt, x17, (List.getD x15 (Int.toNat s.2.1) default).Orb.Peri, (List.getD x15 (Int.toNat s.2.1) default).Orb.Phase⟩⟩ : Entry);
   let x19 := IntKind.wrap .i64 (x16 + 1);
   let x20 := fofInt .f32 x19;
   .need ((decide (0 ≤ s.2.1) && decide (s.2.1 < ((List.length x18 : Nat) : Int)))) (
   .need ((decide ((Int.toNat s.2.1) < List.length x18))) (
   let x21 := List.set x18 (Int.toNat s.2.1) (⟨(List.getD x18 (Int.toNat s.2.1) default).Name, (List.getD x18 (Int.toNat s.2.1) default).Mass, ⟨(List.getD x18 (Int.toNat s.2.1) default).Orb.Long, (List.getD x18 (Int.toNat s.2.1) default).Orb.Round, (List.getD x18 (Int.toNat s.2.1) default).Orb.Tilt, (List.getD x18 (Int.toNat s.2.1) default).Orb.Node, x20, (List.getD x18 (Int.toNat s.2.1) default).Orb.Phase⟩⟩ : Entry);
   let x22 := IntKind.wrap .i64 (x19 + 1);
   let x23 := fofInt .f32 x22;
   .need ((decide (0 ≤ s.2.1) && decide (s.2.1 < ((List.length x21 : Nat) : Int)))) (
   .need ((decide ((Int.toNat s.2.1) < List.length x21))) (
   let x24 := List.set x21 (Int.toNat s.2.1) (⟨(List.getD x21 (Int.toNat s.2.1) default).Name, (List.getD x21 (Int.toNat s.2.1) default).Mass, ⟨(List.getD x21 (Int.toNat s.2.1) default).Orb.Long, (List.getD x21 (Int.toNat s.2.1) default).Orb.Round, (List.getD x21 (Int.toNat s.2.1) default).Orb.Tilt, (List.getD x21 (Int.toNat s.2.1) default).Orb.Node, (List.getD x21 (Int.toNat s.2.1) default).Orb.Peri, x23⟩⟩ : Entry);
   let x25 := IntKind.wrap .i64 (x22 + 1);
   let x26 := IntKind.wrap .i64 (s.2.1 + 1);
   .leaf (.inl (x25, x26, x24), [0])))))))))))))))))))
  (
   .leaf (.inr (s.1, s.2.2), [0]))
def laws_markEntryS_loop0_L (p : Unit) : LoopS (Int × Int × List Entry) (Int × List Entry) := { tl := fun s => [.own 0, .int .i64 s.1, .junk, .junk, .junk, .int .i64 s.2.1], hl := fun s => [some (.typed 56 .entry s.2.2)], ex := fun r => .exit 0, otl := fun r => [.junk, .int .i64 r.1], ohl := fun r => [some (.typed 56 .entry r.2)], gl := [.own 0], ogl := fun _ => [.own 0] }
def laws_markEntryS_loop0_ext : St → Option ((Unit) × (Int × Int × List Entry) × List Nat) := fun S => match (S.tm 0).unK, (S.tm 1).unK, (S.tm 5).unK with
  | .own i0, .int .i64 q0, .int .i64 q1 => (match S.gs with
    | [.own g0] => if g0 = i0 then (match S.hp i0 with
    | some (.typed 56 .entry q2) => some ((), (q0, q1, q2), [i0])
    | _ => none) else none
    | _ => none)
  | _, _, _ => none
def laws_markEntryS_loop0_post (p : Unit) (r : Int × List Entry) : DT (Ex × St) := .leaf (.exit 0, LSt [.junk, .int .i64 r.1] [some (.typed 56 .entry r.2)] [.own 0])
def laws_markEntryS_loop0 (p : Unit) (s : Int × Int × List Entry) : Int × List Entry := loopVal (laws_markEntryS_loop0_step p) s
def laws_markEntryS_loop0_ends (p : Unit) (s : Int × Int × List Entry) : Bool := loopEnds (laws_markEntryS_loop0_step p) s
def laws_markEntryS_loop0_F : LoopF := loopF laws_markEntryS_loop0_step laws_markEntryS_loop0_ext laws_markEntryS_loop0_post
theorem laws_markEntryS_loop0_hext : ∀ S p s fl, laws_markEntryS_loop0_ext S = some (p, s, fl) → Norm S fl ((laws_markEntryS_loop0_L p).tl s) ((laws_markEntryS_loop0_L p).hl s) (laws_markEntryS_loop0_L p).gl := by
  intro S p s fl h
  unfold laws_markEntryS_loop0_ext at h
  (repeat' split at h) <;> first
    | (cases h; constructor <;> simp_all [laws_markEntryS_loop0_L, keepT, keepH, rens, renH, PV.ren, Blk.ren, fOf, lget, nodup, natIn, lenEq, gtm, PV.unK])
    | cases h
theorem laws_markEntryS_loop0_hpost : ∀ p r e S', (laws_markEntryS_loop0_post p r).get = some (e, S') → e = (laws_markEntryS_loop0_L p).ex r ∧ S' = LSt ((laws_markEntryS_loop0_L p).otl r) ((laws_markEntryS_loop0_L p).ohl r) ((laws_markEntryS_loop0_L p).ogl r) := by
  intro p r e S' h
  unfold laws_markEntryS_loop0_post at h
  simp only [DT.get, Option.some.injEq, Prod.mk.injEq] at h; exact ⟨h.1.symm, h.2.symm⟩

def laws_markEntryS_loops : Nat → Option LoopF := loopTab [(2, laws_markEntryS_loop0_F)]
set_option maxRecDepth 100000 in
theorem laws_markEntryS_l0 : LoopOK Tryz.prog ⟨gam [(28, laws_markText_c)], tab, 83, laws_markEntryS_loops⟩ (lp Tryz.f13 0) :=
  loopOK_some (F := laws_markEntryS_loop0_F) (by kernel_rfl) (loopF_ok (E := ⟨gam [(28, laws_markText_c)], tab, 83, laws_markEntryS_loops⟩) ⟨gam_cons laws_markText_ok (gam_nil), tab_ok, by kernel_rfl⟩ (fuel := 100000) (loopsOK_list (l := []) (by kernel_rfl) trivial) (L := laws_markEntryS_loop0_L) (fun p s => by unfold AgreeL; exact ⟨by kernel_rfl, by kernel_rfl⟩) (fun _ _ h => Ex.noConfusion h) laws_markEntryS_loop0_hext laws_markEntryS_loop0_hpost)
/-- loop.example/g01284/laws.markEntryS -/
def laws_markEntryS_tree (a0 : List Entry) (a1 : Int) : DT (Int × List Entry) :=
  .need ((laws_markEntryS_loop0_ends () (a1, 0, a0))) (
  let x0 := laws_markEntryS_loop0 () (a1, 0, a0);
  .leaf (x0.1, x0.2))
def laws_markEntryS (a0 : List Entry) (a1 : Int) : Int × List Entry := (laws_markEntryS_tree a0 a1).val
def laws_markEntryS_need (a0 : List Entry) (a1 : Int) : Bool := (laws_markEntryS_tree a0 a1).ok
def laws_markEntryS_mk (p : Int × List Entry) : PV × List (.entry : UC).T := (.int .i64 p.1, p.2)
def laws_markEntryS_M : MCon := ⟨56, .entry, fun a0 ps => match ps with
  | [.int .i64 a1] => some (.need (laws_markEntryS_need a0 a1) (.leaf (laws_markEntryS_mk (laws_markEntryS a0 a1))))
  | _ => none⟩
set_option maxRecDepth 100000 in
theorem laws_markEntryS_ok : MutOK Tryz.prog 13 laws_markEntryS_M := by
  refine mut_ok (Γ := gam [(28, laws_markText_c)]) (gam_cons laws_markText_ok (gam_nil)) tab_ok (by kernel_rfl) Tryz.func13 (by kernel_rfl) (by kernel_rfl) Tryz.ntmps13 Tryz.results13 (loops := laws_markEntryS_loops) (loopsOK_list (l := [lp Tryz.f13 0]) (by kernel_rfl) ⟨laws_markEntryS_l0, trivial⟩) 100000 fun a0 ps t h => ?_
  simp only [laws_markEntryS_M] at h
  split at h
  · rename_i a1
    cases h
    exact ⟨rfl, agreeM_need (mk := laws_markEntryS_mk) (t := laws_markEntryS_tree a0 a1) (by unfold AgreeM; kernel_rfl)⟩
  · cases h

/-- a loop of laws_heldEntryS -/
def laws_heldEntryS_loop0_step (p : List Entry) (s : Int × Int) : Round (Int × Int) ((Int) ⊕ (Int)) :=
  let x0 := ((List.length p : Nat) : Int);
  let x1 := decide (s.2 < x0);
  .ask x1
  (
   .need ((decide (0 ≤ s.2) && decide (s.2 < ((List.length p : Nat) : Int)))) (
   let x2 := List.getD p (Int.toNat s.2) default;
   .need ((laws_markText_need s.1)) (
   let x3 := laws_markText s.1;
   let x4 := (!(x2.Name == x3));
   .ask x4
   (
    .leaf (.inr (.inl (-1)), []))
   (
    let x5 := IntKind.wrap .i64 (s.1 + 1);
    .need ((decide (0 ≤ s.2) && decide (s.2 < ((List.length p : Nat) : Int)))) (
    let x6 := List.getD p (Int.toNat s.2) default;
    let x7 := fofInt .f32 x5;
    let x8 := fne .f32 x6.Mass x7;
    .ask x8
    (
     .leaf (.inr (.inl (-1)), []))
    (
     let x9 := IntKind.wrap .i64 (x5 + 1);
     .need ((decide (0 ≤ s.2) && decide (s.2 < ((List.length p : Nat) : Int)))) (
     let x10 := List.getD p (Int.toNat s.2) default;
     let x11 := fofInt .f32 x9;
     let x12 := fne .f32 x10.Orb.Long x11;
     .ask x12
     (
      .leaf (.inr (.inl (-1)), []))
     (
      let x13 := IntKind.wrap .i64 (x9 + 1);
      .need ((decide (0 ≤ s.2) && decide (s.2 < ((List.length p : Nat) : Int)))) (
      let x14 := List.getD p (Int.toNat s.2) default;
      let x15 := fofInt .f32 x13;
      let x16 := fne .f32 x14.Orb.Round x15;
      .ask x16
      (
       .leaf (.inr (.inl (-1)), []))
      (
       let x17 := IntKind.wrap .i64 (x13 + 1);
       .need ((decide (0 ≤ s.2) && decide (s.2 < ((List.length p : Nat) : Int)))) (
       let x18 := List.getD p (Int.toNat s.2) default;
       let x19 := fofInt .f32 x17;
       let x20 := fne .f32 x18.Orb.Tilt x19;
       .ask x20
       (
        .leaf (.inr (.inl (-1)), []))
       (
        let x21 := IntKind.wrap .i64 (x17 + 1);
        .need ((decide (0 ≤ s.2) && decide (s.2 < ((List.length p : Nat) : Int)))) (
        let x22 := List.getD p (Int.toNat s.2) default;
        let x23 := fofInt .f32 x21;
        let x24 := fne .f32 x22.Orb.Node x23;
        .ask x24
        (
         .leaf (.inr (.inl (-1)), []))
        (
         let x25 := IntKind.wrap .i64 (x21 + 1);
         .need ((decide (0 ≤ s.2) && decide (s.2 < ((List.length p : Nat) : Int)))) (
         let x26 := List.getD p (Int.toNat s.2) default;
         let x27 := fofInt .f32 x25;
         let x28 := fne .f32 x26.Orb.Peri x27;
         .ask x28
         (
          .leaf (.inr (.inl (-1)), []))
         (
          let x29 := IntKind.wrap .i64 (x25 + 1);
          .need ((decide (0 ≤ s.2) && decide (s.2 < ((List.length p : Nat) : Int)))) (
          let x30 := List.getD p (Int.toNat s.2) default;
          let x31 := fofInt .f32 x29;
          let x32 := fne .f32 x30.Orb.Phase x31;
          .ask x32
          (
           .leaf (.inr (.inl (-1)), []))
          (
           let x33 := IntKind.wrap .i64 (x29 + 1);
           let x34 := IntKind.wrap .i64 (s.2 + 1);
           .leaf (.inl (x33, x34), [])))))))))))))))))))
  (
   .leaf (.inr (.inr s.1), []))
def laws_heldEntryS_loop0_L (p : List Entry) : LoopS (Int × Int) ((Int) ⊕ (Int)) := { tl := fun s => [.vslc 1 .entry p, .int .i64 s.1, .junk, .junk, .junk, .int .i64 s.2], hl := fun s => [], ex := fun r => match r with | .inl r => .ret | .inr r => .exit 0, otl := fun r => match r with | .inl r => [.junk, .junk, .junk, .junk, .int .i64 r] | .inr r => [.junk, .int .i64 r], ohl := fun r => match r with | .inl r => [] | .inr r => [] }
def laws_heldEntryS_loop0_ext : St → Option ((List Entry) × (Int × Int) × List Nat) := fun S => match (S.tm 0).unK, (S.tm 1).unK, (S.tm 5).unK with
  | .vslc 1 .entry q0, .int .i64 q1, .int .i64 q2 => some (q0, (q1, q2), [])
  | _, _, _ => none
def laws_heldEntryS_loop0_post (p : List Entry) (r : (Int) ⊕ (Int)) : DT (Ex × St) := .ask (isL r) (.leaf (.ret, LSt [.junk, .junk, .junk, .junk, .int .i64 ((leftD r))] [])) (.leaf (.exit 0, LSt [.junk, .int .i64 ((rightD r))] []))
def laws_heldEntryS_loop0 (p : List Entry) (s : Int × Int) : (Int) ⊕ (Int) := loopVal (laws_heldEntryS_loop0_step p) s
def laws_heldEntryS_loop0_ends (p : List Entry) (s : Int × Int) : Bool := loopEnds (laws_heldEntryS_loop0_step p) s
def laws_heldEntryS_loop0_F : LoopF := loopF laws_heldEntryS_loop0_step laws_heldEntryS_loop0_ext laws_heldEntryS_loop0_post
theorem laws_heldEntryS_loop0_hext : ∀ S p s fl, laws_heldEntryS_loop0_ext S = some (p, s, fl) → Norm S fl ((laws_heldEntryS_loop0_L p).tl s) ((laws_heldEntryS_loop0_L p).hl s) (laws_heldEntryS_loop0_L p).gl := by
  intro S p s fl h
  unfold laws_heldEntryS_loop0_ext at h
  (repeat' split at h) <;> first
    | (cases h; constructor <;> simp_all [laws_heldEntryS_loop0_L, keepT, keepH, rens, renH, PV.ren, Blk.ren, fOf, lget, nodup, natIn, lenEq, gtm, PV.unK])
    | cases h
theorem laws_heldEntryS_loop0_hpost : ∀ p r e S', (laws_heldEntryS_loop0_post p r).get = some (e, S') → e = (laws_heldEntryS_loop0_L p).ex r ∧ S' = LSt ((laws_heldEntryS_loop0_L p).otl r) ((laws_heldEntryS_loop0_L p).ohl r) ((laws_heldEntryS_loop0_L p).ogl r) := by
  intro p r e S' h
  unfold laws_heldEntryS_loop0_post at h
  cases r <;> (simp only [isL, DT.get, Option.some.injEq, Prod.mk.injEq] at h; exact ⟨h.1.symm, h.2.symm⟩)

def laws_heldEntryS_loops : Nat → Option LoopF := loopTab [(2, laws_heldEntryS_loop0_F)]
set_option maxRecDepth 100000 in
theorem laws_heldEntryS_l0 : LoopOK Tryz.prog ⟨gam [(28, laws_markText_c)], tab, 99, laws_heldEntryS_loops⟩ (lp Tryz.f14 0) :=
  loopOK_some (F := laws_heldEntryS_loop0_F) (by kernel_rfl) (loopF_ok (E := ⟨gam [(28, laws_markText_c)], tab, 99, laws_heldEntryS_loops⟩) ⟨gam_cons laws_markText_ok (gam_nil), tab_ok, by kernel_rfl⟩ (fuel := 100000) (loopsOK_list (l := []) (by kernel_rfl) trivial) (L := laws_heldEntryS_loop0_L) (fun p s => by unfold AgreeL; exact ⟨by kernel_rfl, by kernel_rfl⟩) (fun _ r h => by cases r <;> exact Ex.noConfusion h) laws_heldEntryS_loop0_hext laws_heldEntryS_loop0_hpost)
/-- loop.example/g01284/laws.heldEntryS -/
def laws_heldEntryS_tree (a0 : List Entry) (a1 : Int) : DT (Int) :=
  .need ((laws_heldEntryS_loop0_ends a0 (a1, 0))) (
  let x0 := laws_heldEntryS_loop0 a0 (a1, 0);
  .ask ((isL x0))
  (
   .leaf ((leftD x0)))
  (
   .leaf ((rightD x0))))
def laws_heldEntryS (a0 : List Entry) (a1 : Int) : Int := (laws_heldEntryS_tree a0 a1).val
def laws_heldEntryS_need (a0 : List Entry) (a1 : Int) : Bool := (laws_heldEntryS_tree a0 a1).ok
def laws_heldEntryS_mk (p : Int) : Ret := ⟨.int .i64 p, []⟩
def laws_heldEntryS_c0 : Con := fun args => match args with
  | [.vslc 1 .entry a0, .int .i64 a1] => some (.need (laws_heldEntryS_need a0 a1) (.leaf (laws_heldEntryS_mk (laws_heldEntryS a0 a1))))
  | _ => none
set_option maxRecDepth 100000 in
theorem laws_heldEntryS_ok0 : FunOK Tryz.prog 14 laws_heldEntryS_c0.fn := by
  refine con_ok (Γ := gam [(28, laws_markText_c)]) (gam_cons laws_markText_ok (gam_nil)) tab_ok (by kernel_rfl) Tryz.func14 (by kernel_rfl) (by kernel_rfl) Tryz.ntmps14 Tryz.results14 (loops := laws_heldEntryS_loops) (loopsOK_list (l := [lp Tryz.f14 0]) (by kernel_rfl) ⟨laws_heldEntryS_l0, trivial⟩) 100000 fun args t h => ?_
  unfold laws_heldEntryS_c0 at h
  split at h
  · rename_i a0 a1
    cases h
    exact ⟨rfl, agree_need (mk := laws_heldEntryS_mk) (t := laws_heldEntryS_tree a0 a1) (by unfold Agree; kernel_rfl)⟩
  · cases h
def laws_heldEntryS_c : Con := fun args => laws_heldEntryS_c0 (norms 0 [.slc .entry, .none] args)
set_option maxRecDepth 100000 in
theorem laws_heldEntryS_ok : FunOK Tryz.prog 14 laws_heldEntryS_c.fn := con_norm [.slc .entry, .none] laws_heldEntryS_ok0

/-- loop.example/g01284/laws.FnExactReadEntries -/
def laws_FnExactReadEntries_tree (a0 : (List UInt8)) : DT (Bool) :=
  let x0 := ((List.length a0 : Nat) : Int);
  let x1 := decide (x0 > 1048576);
  .ask x1
  (
   .leaf true)
  (
   .need ((spec_ReadEntries_need a0)) (
   let x2 := spec_ReadEntries a0;
   .ask ((isL x2))
   (
    .need ((impl_ReadEntries_need a0)) (
    let x3 := impl_ReadEntries a0;
    .ask ((isL x3))
    (
     .need ((laws_eqEntryS_need [] ((leftD x2)))) (
     let x4 := laws_eqEntryS [] ((leftD x2));
     .ask (!x4)
     (
      .leaf false)
     (
      .skip (
      .leaf false))))
    (
     .need ((laws_eqEntryS_need ((rightD x3)) ((leftD x2)))) (
     let x4 := laws_eqEntryS ((rightD x3)) ((leftD x2));
     .ask (!x4)
     (
      .leaf false)
     (
      .skip (
      .need ((laws_markEntryS_need ((rightD x3)) 1)) (
      let x5 := laws_markEntryS ((rightD x3)) 1;
      .need ((laws_heldEntryS_need x5.2 1)) (
      let x6 := laws_heldEntryS x5.2 1;
      let x7 := decide (x6 < 0);
      .ask x7
      (
       .leaf false)
      (
       let x8 := (x6 != x5.1);
       .ask x8
       (
        .leaf false)
       (
        .need ((impl_ReadEntries_need a0)) (
        let x9 := impl_ReadEntries a0;
        .ask ((isL x9))
        (
         .need ((laws_eqEntryS_need [] ((leftD x2)))) (
         let x10 := laws_eqEntryS [] ((leftD x2));
         .ask (!x10)
         (
          .leaf false)
         (
          .skip (
          .leaf false))))
        (
         .need ((laws_eqEntryS_need ((rightD x9)) ((leftD x2)))) (
         let x10 := laws_eqEntryS ((rightD x9)) ((leftD x2));
         .ask (!x10)
         (
          .leaf false)
         (
          .skip (
          .need ((laws_heldEntryS_need x5.2 1)) (
          let x11 := laws_heldEntryS x5.2 1;
          let x12 := decide (x11 < 0);
          .ask x12
          (
           .leaf false)
          (
           let x13 := (x11 != x5.1);
           .ask x13
           (
            .leaf false)
           (
            .leaf true))))))))))))))))))
   (
    .need ((impl_ReadEntries_need a0)) (
    let x3 := impl_ReadEntries a0;
    .ask ((isL x3))
    (
     .need ((laws_eqEntryS_need [] [])) (
     let x4 := laws_eqEntryS [] [];
     .ask (!x4)
     (
      .leaf false)
     (
      .skip (
      .need ((laws_markEntryS_need [] 1)) (
      let x5 := laws_markEntryS [] 1;
      .need ((laws_heldEntryS_need [] 1)) (
      let x6 := laws_heldEntryS [] 1;
      let x7 := decide (x6 < 0);
      .ask x7
      (
       .leaf false)
      (
       let x8 := (x6 != x5.1);
       .ask x8
       (
        .leaf false)
       (
        .need ((impl_ReadEntries_need a0)) (
        let x9 := impl_ReadEntries a0;
        .ask ((isL x9))
        (
         .need ((laws_eqEntryS_need [] [])) (
         let x10 := laws_eqEntryS [] [];
         .ask (!x10)
         (
          .leaf false)
         (
          .skip (
          .need ((laws_heldEntryS_need [] 1)) (
          let x11 := laws_heldEntryS [] 1;
          let x12 := decide (x11 < 0);
          .ask x12
          (
           .leaf false)
          (
           let x13 := (x11 != x5.1);
           .ask x13
           (
            .leaf false)
           (
            .leaf true)))))))
        (
         .need ((laws_eqEntryS_need ((rightD x9)) [])) (
         let x10 := laws_eqEntryS ((rightD x9)) [];
         .ask (!x10)
         (
          .leaf false)
         (
          .skip (
          .leaf false)))))))))))))
    (
     .need ((laws_eqEntryS_need ((rightD x3)) [])) (
     let x4 := laws_eqEntryS ((rightD x3)) [];
     .ask (!x4)
     (
      .leaf false)
     (
      .skip (
      .leaf false))))))))
def laws_FnExactReadEntries (a0 : (List UInt8)) : Bool := (laws_FnExactReadEntries_tree a0).val
def laws_FnExactReadEntries_need (a0 : (List UInt8)) : Bool := (laws_FnExactReadEntries_tree a0).ok
def laws_FnExactReadEntries_mk (p : Bool) : Ret := ⟨.bool p, []⟩
def laws_FnExactReadEntries_c : Con := fun args => match args with
  | [.str a0] => some (.need (laws_FnExactReadEntries_need a0) (.leaf (laws_FnExactReadEntries_mk (laws_FnExactReadEntries a0))))
  | _ => none
set_option maxRecDepth 100000 in
theorem laws_FnExactReadEntries_ok : FunOK Tryz.prog 4 laws_FnExactReadEntries_c.fn := by
  refine con_ok (Γ := gam [(10, spec_ReadEntries_c), (11, impl_ReadEntries_c), (12, laws_eqEntryS_c), (14, laws_heldEntryS_c)] [(13, laws_markEntryS_M)]) (gam_cons spec_ReadEntries_ok (gam_cons impl_ReadEntries_ok (gam_cons laws_eqEntryS_ok (gam_cons laws_heldEntryS_ok (gam_mut laws_markEntryS_ok (gam_nil)))))) tab_ok (by kernel_rfl) Tryz.func4 (by kernel_rfl) (by kernel_rfl) Tryz.ntmps4 Tryz.results4 (loopsOK_none rfl _) 100000 fun args t h => ?_
  unfold laws_FnExactReadEntries_c at h
  split at h
  · rename_i a0
    cases h
    exact ⟨rfl, agree_need (mk := laws_FnExactReadEntries_mk) (t := laws_FnExactReadEntries_tree a0) (by unfold Agree; kernel_rfl)⟩
  · cases h

end
end Go.Proofs.YtcipkfndnkmjlaaGreatDoor
