/- THE WALK, BY A PROGRAM: typed functions, and that the code is they. -/
import Derived.Test.YtodhhjcgjkfmpaaG1
namespace Go.Proofs.Ytodhhjcgjkfmpaa
set_option linter.unusedVariables false
set_option linter.unusedSimpArgs false
open Go.Extern
noncomputable section

/-- loop.example/g01284/laws.szBodyS -/
def laws_szBodyS_tree (a0 : List Body) (a1 : Int) : DT (Int) :=
  let x0 := ((List.length a0 : Nat) : Int);
  let x1 := IntKind.wrap .i64 (a1 - x0);
  let x2 := decide (x1 < 0);
  .ask x2
  (
   .leaf (-1))
  (
   .leaf x1)
def laws_szBodyS (a0 : List Body) (a1 : Int) : Int := (laws_szBodyS_tree a0 a1).val
def laws_szBodyS_mk (p : Int) : Ret := ⟨.int .i64 p, []⟩
def laws_szBodyS_c0 : Con := fun args => match args with
  | [.vslc 1 .body a0, .int .i64 a1] => some (.leaf (laws_szBodyS_mk (laws_szBodyS a0 a1)))
  | _ => none
set_option maxRecDepth 100000 in
theorem laws_szBodyS_ok0 : FunOK Try.prog 41 laws_szBodyS_c0.fn := by
  refine con_ok (Γ := gam []) (gam_nil) tab_ok (by kernel_rfl) Try.func41 (by kernel_rfl) (by kernel_rfl) Try.ntmps41 Try.results41 (loopsOK_none rfl _) 100000 fun args t h => ?_
  unfold laws_szBodyS_c0 at h
  split at h
  · rename_i a0 a1
    cases h
    exact ⟨rfl, agree_tot (mk := laws_szBodyS_mk) (t := laws_szBodyS_tree a0 a1) (by unfold Agree; kernel_rfl) (by kernel_rfl)⟩
  · cases h
def laws_szBodyS_c : Con := fun args => laws_szBodyS_c0 (norms 0 [.slc .body, .none] args)
set_option maxRecDepth 100000 in
theorem laws_szBodyS_ok : FunOK Try.prog 41 laws_szBodyS_c.fn := con_norm [.slc .body, .none] laws_szBodyS_ok0

/-- loop.example/g01284/laws.toVector -/
def laws_toVector_tree (a0 : Vec) : DT (Vec) :=
  .leaf ((⟨a0.X, a0.Y, a0.Z⟩ : Vec))
def laws_toVector (a0 : Vec) : Vec := (laws_toVector_tree a0).val
def laws_toVector_mk (p : Vec) : Ret := ⟨.agg [.flt .f32 p.X, .flt .f32 p.Y, .flt .f32 p.Z], []⟩
def laws_toVector_c : Con := fun args => match args with
  | [.agg [.flt .f32 a0_0, .flt .f32 a0_1, .flt .f32 a0_2]] => some (.leaf (laws_toVector_mk (laws_toVector (⟨a0_0, a0_1, a0_2⟩ : Vec))))
  | _ => none
set_option maxRecDepth 100000 in
theorem laws_toVector_ok : FunOK Try.prog 26 laws_toVector_c.fn := by
  refine con_ok (Γ := gam []) (gam_nil) tab_ok (by kernel_rfl) Try.func26 (by kernel_rfl) (by kernel_rfl) Try.ntmps26 Try.results26 (loopsOK_none rfl _) 100000 fun args t h => ?_
  unfold laws_toVector_c at h
  split at h
  · rename_i a0_0 a0_1 a0_2
    cases h
    exact ⟨rfl, agree_tot (mk := laws_toVector_mk) (t := laws_toVector_tree (⟨a0_0, a0_1, a0_2⟩ : Vec)) (by unfold Agree; kernel_rfl) (by kernel_rfl)⟩
  · cases h

/-- loop.example/g01284/laws.toBody -/
def laws_toBody_tree (a0 : Body) : DT (Body) :=
  let x0 := laws_toVector (⟨a0.At.X, a0.At.Y, a0.At.Z⟩ : Vec);
  let x1 := laws_toVector (⟨a0.Speed.X, a0.Speed.Y, a0.Speed.Z⟩ : Vec);
  .leaf ((⟨⟨x0.X, x0.Y, x0.Z⟩, ⟨x1.X, x1.Y, x1.Z⟩, a0.Mass⟩ : Body))
def laws_toBody (a0 : Body) : Body := (laws_toBody_tree a0).val
def laws_toBody_mk (p : Body) : Ret := ⟨.agg [.flt .f32 p.At.X, .flt .f32 p.At.Y, .flt .f32 p.At.Z, .flt .f32 p.Speed.X, .flt .f32 p.Speed.Y, .flt .f32 p.Speed.Z, .flt .f32 p.Mass], []⟩
def laws_toBody_c : Con := fun args => match args with
  | [.agg [.flt .f32 a0_0, .flt .f32 a0_1, .flt .f32 a0_2, .flt .f32 a0_3, .flt .f32 a0_4, .flt .f32 a0_5, .flt .f32 a0_6]] => some (.leaf (laws_toBody_mk (laws_toBody (⟨⟨a0_0, a0_1, a0_2⟩, ⟨a0_3, a0_4, a0_5⟩, a0_6⟩ : Body))))
  | _ => none
set_option maxRecDepth 100000 in
theorem laws_toBody_ok : FunOK Try.prog 119 laws_toBody_c.fn := by
  refine con_ok (Γ := gam [(26, laws_toVector_c)]) (gam_cons laws_toVector_ok (gam_nil)) tab_ok (by kernel_rfl) Try.func119 (by kernel_rfl) (by kernel_rfl) Try.ntmps119 Try.results119 (loopsOK_none rfl _) 100000 fun args t h => ?_
  unfold laws_toBody_c at h
  split at h
  · rename_i a0_0 a0_1 a0_2 a0_3 a0_4 a0_5 a0_6
    cases h
    exact ⟨rfl, agree_tot (mk := laws_toBody_mk) (t := laws_toBody_tree (⟨⟨a0_0, a0_1, a0_2⟩, ⟨a0_3, a0_4, a0_5⟩, a0_6⟩ : Body)) (by unfold Agree; kernel_rfl) (by kernel_rfl)⟩
  · cases h

/-- a loop of laws_toBodyS -/
def laws_toBodyS_loop0_step (p : List Body) (s : Int × List Body) : Round (Int × List Body) (List Body) :=
  let x0 := ((List.length p : Nat) : Int);
  let x1 := decide (s.1 < x0);
  .ask x1
  (
   .need ((decide (0 ≤ s.1) && decide (s.1 < ((List.length p : Nat) : Int)))) (
   let x2 := List.getD p (Int.toNat s.1) default;
   let x3 := laws_toBody (⟨⟨x2.At.X, x2.At.Y, x2.At.Z⟩, ⟨x2.Speed.X, x2.Speed.Y, x2.Speed.Z⟩, x2.Mass⟩ : Body);
   .need ((decide (0 ≤ s.1) && decide (s.1 < ((List.length s.2 : Nat) : Int)))) (
   .need ((decide ((Int.toNat s.1) < List.length s.2))) (
   let x4 := List.set s.2 (Int.toNat s.1) (⟨⟨x3.At.X, x3.At.Y, x3.At.Z⟩, ⟨x3.Speed.X, x3.Speed.Y, x3.Speed.Z⟩, x3.Mass⟩ : Body);
   let x5 := IntKind.wrap .i64 (s.1 + 1);
   .leaf (.inl (x5, x4), [0])))))
  (
   .leaf (.inr s.2, [0]))
def laws_toBodyS_loop0_L (p : List Body) : LoopS (Int × List Body) (List Body) := { tl := fun s => [.vslc 1 .body p, .junk, .junk, .own 0, .int .i64 s.1], hl := fun s => [some (.typed 132 .body s.2)], ex := fun r => .exit 0, otl := fun r => [.junk, .junk, .junk, .own 0], ohl := fun r => [some (.typed 132 .body r)] }
def laws_toBodyS_loop0_ext : St → Option ((List Body) × (Int × List Body) × List Nat) := fun S => match (S.tm 0).unK, (S.tm 3).unK, (S.tm 4).unK with
  | .vslc 1 .body q0, .own i0, .int .i64 q1 => (match S.hp i0 with
    | some (.typed 132 .body q2) => some (q0, (q1, q2), [i0])
    | _ => none)
  | _, _, _ => none
def laws_toBodyS_loop0_post (p : List Body) (r : List Body) : DT (Ex × St) := .leaf (.exit 0, LSt [.junk, .junk, .junk, .own 0] [some (.typed 132 .body r)])
def laws_toBodyS_loop0 (p : List Body) (s : Int × List Body) : List Body := loopVal (laws_toBodyS_loop0_step p) s
def laws_toBodyS_loop0_ends (p : List Body) (s : Int × List Body) : Bool := loopEnds (laws_toBodyS_loop0_step p) s
def laws_toBodyS_loop0_F : LoopF := loopF laws_toBodyS_loop0_step laws_toBodyS_loop0_ext laws_toBodyS_loop0_post
theorem laws_toBodyS_loop0_hext : ∀ S p s fl, laws_toBodyS_loop0_ext S = some (p, s, fl) → Norm S fl ((laws_toBodyS_loop0_L p).tl s) ((laws_toBodyS_loop0_L p).hl s) (laws_toBodyS_loop0_L p).gl := by
  intro S p s fl h
  unfold laws_toBodyS_loop0_ext at h
  (repeat' split at h) <;> first
    | (cases h; constructor <;> simp_all [laws_toBodyS_loop0_L, keepT, keepH, rens, renH, PV.ren, Blk.ren, fOf, lget, nodup, natIn, lenEq, gtm, PV.unK])
    | cases h
theorem laws_toBodyS_loop0_hpost : ∀ p r e S', (laws_toBodyS_loop0_post p r).get = some (e, S') → e = (laws_toBodyS_loop0_L p).ex r ∧ S' = LSt ((laws_toBodyS_loop0_L p).otl r) ((laws_toBodyS_loop0_L p).ohl r) ((laws_toBodyS_loop0_L p).ogl r) := by
  intro p r e S' h
  unfold laws_toBodyS_loop0_post at h
  simp only [DT.get, Option.some.injEq, Prod.mk.injEq] at h; exact ⟨h.1.symm, h.2.symm⟩

def laws_toBodyS_loops : Nat → Option LoopF := loopTab [(3, laws_toBodyS_loop0_F)]
set_option maxRecDepth 100000 in
theorem laws_toBodyS_l0 : LoopOK Try.prog ⟨gam [(119, laws_toBody_c)], tab, 23, laws_toBodyS_loops⟩ (lp Try.f43 0) :=
  loopOK_some (F := laws_toBodyS_loop0_F) (by kernel_rfl) (loopF_ok (E := ⟨gam [(119, laws_toBody_c)], tab, 23, laws_toBodyS_loops⟩) ⟨gam_cons laws_toBody_ok (gam_nil), tab_ok, by kernel_rfl⟩ (fuel := 100000) (loopsOK_list (l := []) (by kernel_rfl) trivial) (L := laws_toBodyS_loop0_L) (fun p s => by unfold AgreeL; exact ⟨by kernel_rfl, by kernel_rfl⟩) (fun _ _ h => Ex.noConfusion h) laws_toBodyS_loop0_hext laws_toBodyS_loop0_hpost)
/-- loop.example/g01284/laws.toBodyS -/
def laws_toBodyS_tree (a0 : List Body) : DT (List Body) :=
  let x0 := ((List.length a0 : Nat) : Int);
  .need ((decide (0 ≤ x0) && decide (x0 ≤ x0) && decide (28 * x0 ≤ 281474976710656) && decide (x0 ≤ 9223372036854775807))) (
  let x1 := List.replicate (Int.toNat x0) (⟨⟨0, 0, 0⟩, ⟨0, 0, 0⟩, 0⟩ : Body);
  .need ((laws_toBodyS_loop0_ends a0 (0, x1))) (
  let x2 := laws_toBodyS_loop0 a0 (0, x1);
  .leaf x2))
def laws_toBodyS (a0 : List Body) : List Body := (laws_toBodyS_tree a0).val
def laws_toBodyS_need (a0 : List Body) : Bool := (laws_toBodyS_tree a0).ok
def laws_toBodyS_mk (p : List Body) : Ret := ⟨.own 0, [.typed 132 .body p]⟩
def laws_toBodyS_c0 : Con := fun args => match args with
  | [.vslc 1 .body a0] => some (.need (laws_toBodyS_need a0) (.leaf (laws_toBodyS_mk (laws_toBodyS a0))))
  | _ => none
set_option maxRecDepth 100000 in
theorem laws_toBodyS_ok0 : FunOK Try.prog 43 laws_toBodyS_c0.fn := by
  refine con_ok (Γ := gam [(119, laws_toBody_c)]) (gam_cons laws_toBody_ok (gam_nil)) tab_ok (by kernel_rfl) Try.func43 (by kernel_rfl) (by kernel_rfl) Try.ntmps43 Try.results43 (loops := laws_toBodyS_loops) (loopsOK_list (l := [lp Try.f43 0]) (by kernel_rfl) ⟨laws_toBodyS_l0, trivial⟩) 100000 fun args t h => ?_
  unfold laws_toBodyS_c0 at h
  split at h
  · rename_i a0
    cases h
    exact ⟨rfl, agree_need (mk := laws_toBodyS_mk) (t := laws_toBodyS_tree a0) (by unfold Agree; kernel_rfl)⟩
  · cases h
def laws_toBodyS_c : Con := fun args => laws_toBodyS_c0 (norms 0 [.slc .body] args)
set_option maxRecDepth 100000 in
theorem laws_toBodyS_ok : FunOK Try.prog 43 laws_toBodyS_c.fn := con_norm [.slc .body] laws_toBodyS_ok0

/-- loop.example/g01284/spec.l02Can -/
def spec_l02Can_tree (a0 : List Body) (a1 : Nat) (a2 : Nat) : DT (Bool) :=
  .need ((spec_l02Are_need a0)) (
  let x0 := spec_l02Are a0;
  .ask x0
  (
   let x1 := spec_l02Least a1;
   .ask x1
   (
    let x2 := spec_l01Finite a2;
    .leaf x2)
   (
    .leaf false))
  (
   .leaf false))
def spec_l02Can (a0 : List Body) (a1 : Nat) (a2 : Nat) : Bool := (spec_l02Can_tree a0 a1 a2).val
def spec_l02Can_need (a0 : List Body) (a1 : Nat) (a2 : Nat) : Bool := (spec_l02Can_tree a0 a1 a2).ok
def spec_l02Can_mk (p : Bool) : Ret := ⟨.bool p, []⟩
def spec_l02Can_c0 : Con := fun args => match args with
  | [.vslc 1 .body a0, .flt .f32 a1, .flt .f32 a2] => some (.need (spec_l02Can_need a0 a1 a2) (.leaf (spec_l02Can_mk (spec_l02Can a0 a1 a2))))
  | _ => none
set_option maxRecDepth 100000 in
theorem spec_l02Can_ok0 : FunOK Try.prog 117 spec_l02Can_c0.fn := by
  refine con_ok (Γ := gam [(177, spec_l02Are_c), (101, spec_l02Least_c), (88, spec_l01Finite_c)]) (gam_cons spec_l02Are_ok (gam_cons spec_l02Least_ok (gam_cons spec_l01Finite_ok (gam_nil)))) tab_ok (by kernel_rfl) Try.func117 (by kernel_rfl) (by kernel_rfl) Try.ntmps117 Try.results117 (loopsOK_none rfl _) 100000 fun args t h => ?_
  unfold spec_l02Can_c0 at h
  split at h
  · rename_i a0 a1 a2
    cases h
    exact ⟨rfl, agree_need (mk := spec_l02Can_mk) (t := spec_l02Can_tree a0 a1 a2) (by unfold Agree; kernel_rfl)⟩
  · cases h
def spec_l02Can_c : Con := fun args => spec_l02Can_c0 (norms 0 [.slc .body, .none, .none] args)
set_option maxRecDepth 100000 in
theorem spec_l02Can_ok : FunOK Try.prog 117 spec_l02Can_c.fn := con_norm [.slc .body, .none, .none] spec_l02Can_ok0

/-- loop.example/g01284/spec.l01VLess -/
def spec_l01VLess_tree (a0 : Vec) (a1 : Vec) : DT (Vec) :=
  let x0 := fsub .f32 a0.X a1.X;
  let x1 := fsub .f32 a0.Y a1.Y;
  let x2 := fsub .f32 a0.Z a1.Z;
  .leaf ((⟨x0, x1, x2⟩ : Vec))
def spec_l01VLess (a0 : Vec) (a1 : Vec) : Vec := (spec_l01VLess_tree a0 a1).val
def spec_l01VLess_mk (p : Vec) : Ret := ⟨.agg [.flt .f32 p.X, .flt .f32 p.Y, .flt .f32 p.Z], []⟩
def spec_l01VLess_c : Con := fun args => match args with
  | [.agg [.flt .f32 a0_0, .flt .f32 a0_1, .flt .f32 a0_2], .agg [.flt .f32 a1_0, .flt .f32 a1_1, .flt .f32 a1_2]] => some (.leaf (spec_l01VLess_mk (spec_l01VLess (⟨a0_0, a0_1, a0_2⟩ : Vec) (⟨a1_0, a1_1, a1_2⟩ : Vec))))
  | _ => none
set_option maxRecDepth 100000 in
theorem spec_l01VLess_ok : FunOK Try.prog 217 spec_l01VLess_c.fn := by
  refine con_ok (Γ := gam []) (gam_nil) tab_ok (by kernel_rfl) Try.func217 (by kernel_rfl) (by kernel_rfl) Try.ntmps217 Try.results217 (loopsOK_none rfl _) 100000 fun args t h => ?_
  unfold spec_l01VLess_c at h
  split at h
  · rename_i a0_0 a0_1 a0_2 a1_0 a1_1 a1_2
    cases h
    exact ⟨rfl, agree_tot (mk := spec_l01VLess_mk) (t := spec_l01VLess_tree (⟨a0_0, a0_1, a0_2⟩ : Vec) (⟨a1_0, a1_1, a1_2⟩ : Vec)) (by unfold Agree; kernel_rfl) (by kernel_rfl)⟩
  · cases h

/-- loop.example/g01284/spec.l01VInner -/
def spec_l01VInner_tree (a0 : Vec) (a1 : Vec) : DT (Nat) :=
  let x0 := fmul .f32 a0.X a1.X;
  let x1 := fmul .f32 a0.Y a1.Y;
  let x2 := fadd .f32 x0 x1;
  let x3 := fmul .f32 a0.Z a1.Z;
  let x4 := fadd .f32 x2 x3;
  .leaf x4
def spec_l01VInner (a0 : Vec) (a1 : Vec) : Nat := (spec_l01VInner_tree a0 a1).val
def spec_l01VInner_mk (p : Nat) : Ret := ⟨.flt .f32 p, []⟩
def spec_l01VInner_c : Con := fun args => match args with
  | [.agg [.flt .f32 a0_0, .flt .f32 a0_1, .flt .f32 a0_2], .agg [.flt .f32 a1_0, .flt .f32 a1_1, .flt .f32 a1_2]] => some (.leaf (spec_l01VInner_mk (spec_l01VInner (⟨a0_0, a0_1, a0_2⟩ : Vec) (⟨a1_0, a1_1, a1_2⟩ : Vec))))
  | _ => none
set_option maxRecDepth 100000 in
theorem spec_l01VInner_ok : FunOK Try.prog 213 spec_l01VInner_c.fn := by
  refine con_ok (Γ := gam []) (gam_nil) tab_ok (by kernel_rfl) Try.func213 (by kernel_rfl) (by kernel_rfl) Try.ntmps213 Try.results213 (loopsOK_none rfl _) 100000 fun args t h => ?_
  unfold spec_l01VInner_c at h
  split at h
  · rename_i a0_0 a0_1 a0_2 a1_0 a1_1 a1_2
    cases h
    exact ⟨rfl, agree_tot (mk := spec_l01VInner_mk) (t := spec_l01VInner_tree (⟨a0_0, a0_1, a0_2⟩ : Vec) (⟨a1_0, a1_1, a1_2⟩ : Vec)) (by unfold Agree; kernel_rfl) (by kernel_rfl)⟩
  · cases h

/-- loop.example/g01284/spec.l01VScale -/
def spec_l01VScale_tree (a0 : Vec) (a1 : Nat) : DT (Vec) :=
  let x0 := fmul .f32 a0.X a1;
  let x1 := fmul .f32 a0.Y a1;
  let x2 := fmul .f32 a0.Z a1;
  .leaf ((⟨x0, x1, x2⟩ : Vec))
def spec_l01VScale (a0 : Vec) (a1 : Nat) : Vec := (spec_l01VScale_tree a0 a1).val
def spec_l01VScale_mk (p : Vec) : Ret := ⟨.agg [.flt .f32 p.X, .flt .f32 p.Y, .flt .f32 p.Z], []⟩
def spec_l01VScale_c : Con := fun args => match args with
  | [.agg [.flt .f32 a0_0, .flt .f32 a0_1, .flt .f32 a0_2], .flt .f32 a1] => some (.leaf (spec_l01VScale_mk (spec_l01VScale (⟨a0_0, a0_1, a0_2⟩ : Vec) a1)))
  | _ => none
set_option maxRecDepth 100000 in
theorem spec_l01VScale_ok : FunOK Try.prog 186 spec_l01VScale_c.fn := by
  refine con_ok (Γ := gam []) (gam_nil) tab_ok (by kernel_rfl) Try.func186 (by kernel_rfl) (by kernel_rfl) Try.ntmps186 Try.results186 (loopsOK_none rfl _) 100000 fun args t h => ?_
  unfold spec_l01VScale_c at h
  split at h
  · rename_i a0_0 a0_1 a0_2 a1
    cases h
    exact ⟨rfl, agree_tot (mk := spec_l01VScale_mk) (t := spec_l01VScale_tree (⟨a0_0, a0_1, a0_2⟩ : Vec) a1) (by unfold Agree; kernel_rfl) (by kernel_rfl)⟩
  · cases h

/-- loop.example/g01284/spec.l01VAdd -/
def spec_l01VAdd_tree (a0 : Vec) (a1 : Vec) : DT (Vec) :=
  let x0 := fadd .f32 a0.X a1.X;
  let x1 := fadd .f32 a0.Y a1.Y;
  let x2 := fadd .f32 a0.Z a1.Z;
  .leaf ((⟨x0, x1, x2⟩ : Vec))
def spec_l01VAdd (a0 : Vec) (a1 : Vec) : Vec := (spec_l01VAdd_tree a0 a1).val
def spec_l01VAdd_mk (p : Vec) : Ret := ⟨.agg [.flt .f32 p.X, .flt .f32 p.Y, .flt .f32 p.Z], []⟩
def spec_l01VAdd_c : Con := fun args => match args with
  | [.agg [.flt .f32 a0_0, .flt .f32 a0_1, .flt .f32 a0_2], .agg [.flt .f32 a1_0, .flt .f32 a1_1, .flt .f32 a1_2]] => some (.leaf (spec_l01VAdd_mk (spec_l01VAdd (⟨a0_0, a0_1, a0_2⟩ : Vec) (⟨a1_0, a1_1, a1_2⟩ : Vec))))
  | _ => none
set_option maxRecDepth 100000 in
theorem spec_l01VAdd_ok : FunOK Try.prog 185 spec_l01VAdd_c.fn := by
  refine con_ok (Γ := gam []) (gam_nil) tab_ok (by kernel_rfl) Try.func185 (by kernel_rfl) (by kernel_rfl) Try.ntmps185 Try.results185 (loopsOK_none rfl _) 100000 fun args t h => ?_
  unfold spec_l01VAdd_c at h
  split at h
  · rename_i a0_0 a0_1 a0_2 a1_0 a1_1 a1_2
    cases h
    exact ⟨rfl, agree_tot (mk := spec_l01VAdd_mk) (t := spec_l01VAdd_tree (⟨a0_0, a0_1, a0_2⟩ : Vec) (⟨a1_0, a1_1, a1_2⟩ : Vec)) (by unfold Agree; kernel_rfl) (by kernel_rfl)⟩
  · cases h

/-- a loop of spec_l02Pull -/
def spec_l02Pull_loop0_step (p : List Body × Int × Nat × Nat × Nat × Nat × Nat × Nat × Nat) (s : Int × Nat × Nat × Nat) : Round (Int × Nat × Nat × Nat) (Nat × Nat × Nat) :=
  let x0 := ((List.length p.1 : Nat) : Int);
  let x1 := decide (s.1 < x0);
  .ask x1
  (
   .need ((decide (0 ≤ s.1) && decide (s.1 < ((List.length p.1 : Nat) : Int)))) (
   let x2 := List.getD p.1 (Int.toNat s.1) default;
   let x3 := spec_l01VLess (⟨x2.At.X, x2.At.Y, x2.At.Z⟩ : Vec) (⟨p.2.2.2.1, p.2.2.2.2.1, p.2.2.2.2.2.1⟩ : Vec);
   let x4 := spec_l01VInner (⟨x3.X, x3.Y, x3.Z⟩ : Vec) (⟨x3.X, x3.Y, x3.Z⟩ : Vec);
   let x5 := fmul .f32 p.2.2.1 p.2.2.1;
   let x6 := fadd .f32 x4 x5;
   let x7 := (s.1 == p.2.1);
   .ask x7
   (
    let x8 := IntKind.wrap .i64 (s.1 + 1);
    .leaf (.inl (x8, s.2.1, s.2.2.1, s.2.2.2), [0, 1, 2]))
   (
    let x8 := fgt .f32 x6 0;
    .ask (!x8)
    (
     let x9 := IntKind.wrap .i64 (s.1 + 1);
     .leaf (.inl (x9, s.2.1, s.2.2.1, s.2.2.2), [0, 1, 2]))
    (
     .need ((decide (0 ≤ s.1) && decide (s.1 < ((List.length p.1 : Nat) : Int)))) (
     let x9 := List.getD p.1 (Int.toNat s.1) default;
     .need ((spec_l01Sqrt_need x6)) (
     let x10 := spec_l01Sqrt x6;
     let x11 := fmul .f32 x6 x10;
     let x12 := fdiv .f32 x9.Mass x11;
     let x13 := spec_l01VScale (⟨x3.X, x3.Y, x3.Z⟩ : Vec) x12;
     let x14 := spec_l01VAdd (⟨s.2.1, s.2.2.1, s.2.2.2⟩ : Vec) (⟨x13.X, x13.Y, x13.Z⟩ : Vec);
     let x15 := IntKind.wrap .i64 (s.1 + 1);
     .leaf (.inl (x15, x14.X, x14.Y, x14.Z), [0, 1, 2])))))))
  (
   .leaf (.inr (s.2.1, s.2.2.1, s.2.2.2), [1, 2]))
def spec_l02Pull_loop0_L (p : List Body × Int × Nat × Nat × Nat × Nat × Nat × Nat × Nat) : LoopS (Int × Nat × Nat × Nat) (Nat × Nat × Nat) := { tl := fun s => [.vslc 1 .body p.1, .int .i64 p.2.1, .junk, .flt .f32 p.2.2.1, .junk, .junk, .ptr 0 0, .junk, .ptr 1 0, .ptr 2 0, .int .i64 s.1], hl := fun s => [some (.cells [.flt .f32 p.2.2.2.1, .flt .f32 p.2.2.2.2.1, .flt .f32 p.2.2.2.2.2.1]), some (.cells [.flt .f32 p.2.2.2.2.2.2.1, .flt .f32 p.2.2.2.2.2.2.2.1, .flt .f32 p.2.2.2.2.2.2.2.2]), some (.cells [.flt .f32 s.2.1, .flt .f32 s.2.2.1, .flt .f32 s.2.2.2])], ex := fun r => .exit 0, otl := fun r => [.junk, .junk, .junk, .junk, .junk, .junk, .junk, .junk, .ptr 0 0, .ptr 1 0], ohl := fun r => [some (.cells [.flt .f32 p.2.2.2.2.2.2.1, .flt .f32 p.2.2.2.2.2.2.2.1, .flt .f32 p.2.2.2.2.2.2.2.2]), some (.cells [.flt .f32 r.1, .flt .f32 r.2.1, .flt .f32 r.2.2])] }
def spec_l02Pull_loop0_ext : St → Option ((List Body × Int × Nat × Nat × Nat × Nat × Nat × Nat × Nat) × (Int × Nat × Nat × Nat) × List Nat) := fun S => match (S.tm 0).unK, (S.tm 1).unK, (S.tm 3).unK, (S.tm 6).unK, (S.tm 8).unK, (S.tm 9).unK, (S.tm 10).unK with
  | .vslc 1 .body q0, .int .i64 q1, .flt .f32 q2, .ptr i0 0, .ptr i1 0, .ptr i2 0, .int .i64 q3 => (match S.hp i0 with
    | some (.cells [.flt .f32 q4, .flt .f32 q5, .flt .f32 q6]) => (match S.hp i1 with
    | some (.cells [.flt .f32 q7, .flt .f32 q8, .flt .f32 q9]) => (match S.hp i2 with
    | some (.cells [.flt .f32 q10, .flt .f32 q11, .flt .f32 q12]) => (if nodup [i0, i1, i2] = true then some ((q0, q1, q2, q4, q5, q6, q7, q8, q9), (q3, q10, q11, q12), [i0, i1, i2]) else none)
    | _ => none)
    | _ => none)
    | _ => none)
  | _, _, _, _, _, _, _ => none
def spec_l02Pull_loop0_post (p : List Body × Int × Nat × Nat × Nat × Nat × Nat × Nat × Nat) (r : Nat × Nat × Nat) : DT (Ex × St) := .leaf (.exit 0, LSt [.junk, .junk, .junk, .junk, .junk, .junk, .junk, .junk, .ptr 0 0, .ptr 1 0] [some (.cells [.flt .f32 p.2.2.2.2.2.2.1, .flt .f32 p.2.2.2.2.2.2.2.1, .flt .f32 p.2.2.2.2.2.2.2.2]), some (.cells [.flt .f32 r.1, .flt .f32 r.2.1, .flt .f32 r.2.2])])
def spec_l02Pull_loop0 (p : List Body × Int × Nat × Nat × Nat × Nat × Nat × Nat × Nat) (s : Int × Nat × Nat × Nat) : Nat × Nat × Nat := loopVal (spec_l02Pull_loop0_step p) s
def spec_l02Pull_loop0_ends (p : List Body × Int × Nat × Nat × Nat × Nat × Nat × Nat × Nat) (s : Int × Nat × Nat × Nat) : Bool := loopEnds (spec_l02Pull_loop0_step p) s
def spec_l02Pull_loop0_F : LoopF := loopF spec_l02Pull_loop0_step spec_l02Pull_loop0_ext spec_l02Pull_loop0_post
theorem spec_l02Pull_loop0_hext : ∀ S p s fl, spec_l02Pull_loop0_ext S = some (p, s, fl) → Norm S fl ((spec_l02Pull_loop0_L p).tl s) ((spec_l02Pull_loop0_L p).hl s) (spec_l02Pull_loop0_L p).gl := by
  intro S p s fl h
  unfold spec_l02Pull_loop0_ext at h
  (repeat' split at h) <;> first
    | (cases h; constructor <;> simp_all [spec_l02Pull_loop0_L, keepT, keepH, rens, renH, PV.ren, Blk.ren, fOf, lget, nodup, natIn, lenEq, gtm, PV.unK])
    | cases h
theorem spec_l02Pull_loop0_hpost : ∀ p r e S', (spec_l02Pull_loop0_post p r).get = some (e, S') → e = (spec_l02Pull_loop0_L p).ex r ∧ S' = LSt ((spec_l02Pull_loop0_L p).otl r) ((spec_l02Pull_loop0_L p).ohl r) ((spec_l02Pull_loop0_L p).ogl r) := by
  intro p r e S' h
  unfold spec_l02Pull_loop0_post at h
  simp only [DT.get, Option.some.injEq, Prod.mk.injEq] at h; exact ⟨h.1.symm, h.2.symm⟩

def spec_l02Pull_loops : Nat → Option LoopF := loopTab [(3, spec_l02Pull_loop0_F)]
set_option maxRecDepth 100000 in
theorem spec_l02Pull_l0 : LoopOK Try.prog ⟨gam [(217, spec_l01VLess_c), (213, spec_l01VInner_c), (103, spec_l01Sqrt_c), (186, spec_l01VScale_c), (185, spec_l01VAdd_c)], tab, 57, spec_l02Pull_loops⟩ (lp Try.f233 0) :=
  loopOK_some (F := spec_l02Pull_loop0_F) (by kernel_rfl) (loopF_ok (E := ⟨gam [(217, spec_l01VLess_c), (213, spec_l01VInner_c), (103, spec_l01Sqrt_c), (186, spec_l01VScale_c), (185, spec_l01VAdd_c)], tab, 57, spec_l02Pull_loops⟩) ⟨gam_cons spec_l01VLess_ok (gam_cons spec_l01VInner_ok (gam_cons spec_l01Sqrt_ok (gam_cons spec_l01VScale_ok (gam_cons spec_l01VAdd_ok (gam_nil))))), tab_ok, by kernel_rfl⟩ (fuel := 100000) (loopsOK_list (l := []) (by kernel_rfl) trivial) (L := spec_l02Pull_loop0_L) (fun p s => by unfold AgreeL; exact ⟨by kernel_rfl, by kernel_rfl⟩) (fun _ _ h => Ex.noConfusion h) spec_l02Pull_loop0_hext spec_l02Pull_loop0_hpost)
/-- loop.example/g01284/spec.l02Pull -/
def spec_l02Pull_tree (a0 : List Body) (a1 : Int) (a2 : Vec) (a3 : Nat) : DT (Vec) :=
  .need ((spec_l02Pull_loop0_ends (a0, a1, a3, a2.X, a2.Y, a2.Z, 0, 0, 0) (0, 0, 0, 0))) (
  let x0 := spec_l02Pull_loop0 (a0, a1, a3, a2.X, a2.Y, a2.Z, 0, 0, 0) (0, 0, 0, 0);
  .leaf ((⟨x0.1, x0.2.1, x0.2.2⟩ : Vec)))
def spec_l02Pull (a0 : List Body) (a1 : Int) (a2 : Vec) (a3 : Nat) : Vec := (spec_l02Pull_tree a0 a1 a2 a3).val
def spec_l02Pull_need (a0 : List Body) (a1 : Int) (a2 : Vec) (a3 : Nat) : Bool := (spec_l02Pull_tree a0 a1 a2 a3).ok
def spec_l02Pull_mk (p : Vec) : Ret := ⟨.agg [.flt .f32 p.X, .flt .f32 p.Y, .flt .f32 p.Z], []⟩
def spec_l02Pull_c0 : Con := fun args => match args with
  | [.vslc 1 .body a0, .int .i64 a1, .agg [.flt .f32 a2_0, .flt .f32 a2_1, .flt .f32 a2_2], .flt .f32 a3] => some (.need (spec_l02Pull_need a0 a1 (⟨a2_0, a2_1, a2_2⟩ : Vec) a3) (.leaf (spec_l02Pull_mk (spec_l02Pull a0 a1 (⟨a2_0, a2_1, a2_2⟩ : Vec) a3))))
  | _ => none
set_option maxRecDepth 100000 in
theorem spec_l02Pull_ok0 : FunOK Try.prog 233 spec_l02Pull_c0.fn := by
  refine con_ok (Γ := gam [(217, spec_l01VLess_c), (213, spec_l01VInner_c), (103, spec_l01Sqrt_c), (186, spec_l01VScale_c), (185, spec_l01VAdd_c)]) (gam_cons spec_l01VLess_ok (gam_cons spec_l01VInner_ok (gam_cons spec_l01Sqrt_ok (gam_cons spec_l01VScale_ok (gam_cons spec_l01VAdd_ok (gam_nil)))))) tab_ok (by kernel_rfl) Try.func233 (by kernel_rfl) (by kernel_rfl) Try.ntmps233 Try.results233 (loops := spec_l02Pull_loops) (loopsOK_list (l := [lp Try.f233 0]) (by kernel_rfl) ⟨spec_l02Pull_l0, trivial⟩) 100000 fun args t h => ?_
  unfold spec_l02Pull_c0 at h
  split at h
  · rename_i a0 a1 a2_0 a2_1 a2_2 a3
    cases h
    exact ⟨rfl, agree_need (mk := spec_l02Pull_mk) (t := spec_l02Pull_tree a0 a1 (⟨a2_0, a2_1, a2_2⟩ : Vec) a3) (by unfold Agree; kernel_rfl)⟩
  · cases h
def spec_l02Pull_c : Con := fun args => spec_l02Pull_c0 (norms 0 [.slc .body, .none, .none, .none] args)
set_option maxRecDepth 100000 in
theorem spec_l02Pull_ok : FunOK Try.prog 233 spec_l02Pull_c.fn := con_norm [.slc .body, .none, .none, .none] spec_l02Pull_ok0

/-- a loop of spec_l02Pulls -/
def spec_l02Pulls_loop0_step (p : List Body × Nat) (s : Int × List Vec) : Round (Int × List Vec) ((Unit) ⊕ (List Vec)) :=
  let x0 := ((List.length p.1 : Nat) : Int);
  let x1 := decide (s.1 < x0);
  .ask x1
  (
   .need ((decide (0 ≤ s.1) && decide (s.1 < ((List.length p.1 : Nat) : Int)))) (
   let x2 := List.getD p.1 (Int.toNat s.1) default;
   .need ((spec_l02Pull_need p.1 s.1 (⟨x2.At.X, x2.At.Y, x2.At.Z⟩ : Vec) p.2)) (
   let x3 := spec_l02Pull p.1 s.1 (⟨x2.At.X, x2.At.Y, x2.At.Z⟩ : Vec) p.2;
   let x4 := spec_l01VFinite (⟨x3.X, x3.Y, x3.Z⟩ : Vec);
   .ask (!x4)
   (
    .leaf (.inr (.inl ()), []))
   (
    .need ((decide ((List.length s.2 + List.length [(⟨x3.X, x3.Y, x3.Z⟩ : Vec)]) * 12 ≤ 140737488355328) && decide (List.length s.2 + List.length [(⟨x3.X, x3.Y, x3.Z⟩ : Vec)] ≤ 9223372036854775807))) (
    let x5 := s.2 ++ [(⟨x3.X, x3.Y, x3.Z⟩ : Vec)];
    let x6 := IntKind.wrap .i64 (s.1 + 1);
    .leaf (.inl (x6, x5), [169]))))))
  (
   .leaf (.inr (.inr s.2), [0]))
def spec_l02Pulls_loop0_L (p : List Body × Nat) : LoopS (Int × List Vec) ((Unit) ⊕ (List Vec)) := { tl := fun s => [.vslc 1 .body p.1, .flt .f32 p.2, .junk, .junk, .junk, .junk, .own 0, .int .i64 s.1], hl := fun s => [some (.typed 48 .vec s.2)], ex := fun r => match r with | .inl r => .ret | .inr r => .exit 0, otl := fun r => match r with | .inl r => [.junk, .junk, .junk, .junk, .nils, .bool false] | .inr r => [.junk, .junk, .junk, .junk, .junk, .junk, .own 0], ohl := fun r => match r with | .inl r => [] | .inr r => [some (.typed 48 .vec r)] }
def spec_l02Pulls_loop0_ext : St → Option ((List Body × Nat) × (Int × List Vec) × List Nat) := fun S => match (S.tm 0).unK, (S.tm 1).unK, (S.tm 6).unK, (S.tm 7).unK with
  | .vslc 1 .body q0, .flt .f32 q1, .own i0, .int .i64 q2 => (match S.hp i0 with
    | some (.typed 48 .vec q3) => some ((q0, q1), (q2, q3), [i0])
    | _ => none)
  | _, _, _, _ => none
def spec_l02Pulls_loop0_post (p : List Body × Nat) (r : (Unit) ⊕ (List Vec)) : DT (Ex × St) := .ask (isL r) (.leaf (.ret, LSt [.junk, .junk, .junk, .junk, .nils, .bool false] [])) (.leaf (.exit 0, LSt [.junk, .junk, .junk, .junk, .junk, .junk, .own 0] [some (.typed 48 .vec ((rightD r)))]))
def spec_l02Pulls_loop0 (p : List Body × Nat) (s : Int × List Vec) : (Unit) ⊕ (List Vec) := loopVal (spec_l02Pulls_loop0_step p) s
def spec_l02Pulls_loop0_ends (p : List Body × Nat) (s : Int × List Vec) : Bool := loopEnds (spec_l02Pulls_loop0_step p) s
def spec_l02Pulls_loop0_F : LoopF := loopF spec_l02Pulls_loop0_step spec_l02Pulls_loop0_ext spec_l02Pulls_loop0_post
theorem spec_l02Pulls_loop0_hext : ∀ S p s fl, spec_l02Pulls_loop0_ext S = some (p, s, fl) → Norm S fl ((spec_l02Pulls_loop0_L p).tl s) ((spec_l02Pulls_loop0_L p).hl s) (spec_l02Pulls_loop0_L p).gl := by
  intro S p s fl h
  unfold spec_l02Pulls_loop0_ext at h
  (repeat' split at h) <;> first
    | (cases h; constructor <;> simp_all [spec_l02Pulls_loop0_L, keepT, keepH, rens, renH, PV.ren, Blk.ren, fOf, lget, nodup, natIn, lenEq, gtm, PV.unK])
    | cases h
theorem spec_l02Pulls_loop0_hpost : ∀ p r e S', (spec_l02Pulls_loop0_post p r).get = some (e, S') → e = (spec_l02Pulls_loop0_L p).ex r ∧ S' = LSt ((spec_l02Pulls_loop0_L p).otl r) ((spec_l02Pulls_loop0_L p).ohl r) ((spec_l02Pulls_loop0_L p).ogl r) := by
  intro p r e S' h
  unfold spec_l02Pulls_loop0_post at h
  cases r <;> (simp only [isL, DT.get, Option.some.injEq, Prod.mk.injEq] at h; exact ⟨h.1.symm, h.2.symm⟩)

def spec_l02Pulls_loops : Nat → Option LoopF := loopTab [(3, spec_l02Pulls_loop0_F)]
set_option maxRecDepth 100000 in
theorem spec_l02Pulls_l0 : LoopOK Try.prog ⟨gam [(233, spec_l02Pull_c), (87, spec_l01VFinite_c)], tab, 33, spec_l02Pulls_loops⟩ (lp Try.f221 0) :=
  loopOK_some (F := spec_l02Pulls_loop0_F) (by kernel_rfl) (loopF_ok (E := ⟨gam [(233, spec_l02Pull_c), (87, spec_l01VFinite_c)], tab, 33, spec_l02Pulls_loops⟩) ⟨gam_cons spec_l02Pull_ok (gam_cons spec_l01VFinite_ok (gam_nil)), tab_ok, by kernel_rfl⟩ (fuel := 100000) (loopsOK_list (l := []) (by kernel_rfl) trivial) (L := spec_l02Pulls_loop0_L) (fun p s => by unfold AgreeL; exact ⟨by kernel_rfl, by kernel_rfl⟩) (fun _ r h => by cases r <;> exact Ex.noConfusion h) spec_l02Pulls_loop0_hext spec_l02Pulls_loop0_hpost)
/-- loop.example/g01284/spec.l02Pulls -/
def spec_l02Pulls_tree (a0 : List Body) (a1 : Nat) : DT ((Unit) ⊕ (List Vec)) :=
  .need ((spec_l02Pulls_loop0_ends (a0, a1) (0, []))) (
  let x0 := spec_l02Pulls_loop0 (a0, a1) (0, []);
  .ask ((isL x0))
  (
   .leaf (.inl ()))
  (
   .leaf (.inr ((rightD x0)))))
def spec_l02Pulls (a0 : List Body) (a1 : Nat) : (Unit) ⊕ (List Vec) := (spec_l02Pulls_tree a0 a1).val
def spec_l02Pulls_need (a0 : List Body) (a1 : Nat) : Bool := (spec_l02Pulls_tree a0 a1).ok
def spec_l02Pulls_mk0 (p : Unit) : Ret := ⟨.tup [.nils, .bool false], []⟩
def spec_l02Pulls_mk1 (p : List Vec) : Ret := ⟨.tup [.own 0, .bool true], [.typed 48 .vec p]⟩
def spec_l02Pulls_mk : (Unit) ⊕ (List Vec) → Ret := fun v => match v with
  | (.inl p) => spec_l02Pulls_mk0 p
  | (.inr p) => spec_l02Pulls_mk1 p
def spec_l02Pulls_forms (v : (Unit) ⊕ (List Vec)) : DT Ret := .ask (isL v) (.leaf (spec_l02Pulls_mk0 (leftD v))) (.leaf (spec_l02Pulls_mk1 (rightD v)))
theorem spec_l02Pulls_forms_get : ∀ v, (spec_l02Pulls_forms v).get = some (spec_l02Pulls_mk v) := by
  intro v
  rcases v with v | v <;> rfl
def spec_l02Pulls_c0 : Con := fun args => match args with
  | [.vslc 1 .body a0, .flt .f32 a1] => some (.need (spec_l02Pulls_need a0 a1) (spec_l02Pulls_forms (spec_l02Pulls a0 a1)))
  | _ => none
set_option maxRecDepth 100000 in
theorem spec_l02Pulls_ok0 : FunOK Try.prog 221 spec_l02Pulls_c0.fn := by
  refine con_ok (Γ := gam [(233, spec_l02Pull_c), (87, spec_l01VFinite_c)]) (gam_cons spec_l02Pull_ok (gam_cons spec_l01VFinite_ok (gam_nil))) tab_ok (by kernel_rfl) Try.func221 (by kernel_rfl) (by kernel_rfl) Try.ntmps221 Try.results221 (loops := spec_l02Pulls_loops) (loopsOK_list (l := [lp Try.f221 0]) (by kernel_rfl) ⟨spec_l02Pulls_l0, trivial⟩) 100000 fun args t h => ?_
  unfold spec_l02Pulls_c0 at h
  split at h
  · rename_i a0 a1
    cases h
    exact ⟨rfl, agree_forms (mk := spec_l02Pulls_mk) (t := spec_l02Pulls_tree a0 a1) (by unfold Agree; kernel_rfl) (fun h => h) (spec_l02Pulls_forms_get _)⟩
  · cases h
def spec_l02Pulls_c : Con := fun args => spec_l02Pulls_c0 (norms 0 [.slc .body, .none] args)
set_option maxRecDepth 100000 in
theorem spec_l02Pulls_ok : FunOK Try.prog 221 spec_l02Pulls_c.fn := con_norm [.slc .body, .none] spec_l02Pulls_ok0

/-- loop.example/g01284/spec.l02Own -/
def spec_l02Own_tree (a0 : List Body) : DT (List Body) :=
  .need ((decide ((List.length ([] : List Body) + List.length a0) * 28 ≤ 140737488355328) && decide (List.length ([] : List Body) + List.length a0 ≤ 9223372036854775807))) (
  let x0 := ([] : List Body) ++ a0;
  .leaf x0)
def spec_l02Own (a0 : List Body) : List Body := (spec_l02Own_tree a0).val
def spec_l02Own_need (a0 : List Body) : Bool := (spec_l02Own_tree a0).ok
def spec_l02Own_mk (p : List Body) : Ret := ⟨.own 0, [.typed 132 .body p]⟩
def spec_l02Own_c0 : Con := fun args => match args with
  | [.vslc 1 .body a0] => some (.need (spec_l02Own_need a0) (.leaf (spec_l02Own_mk (spec_l02Own a0))))
  | _ => none
set_option maxRecDepth 100000 in
theorem spec_l02Own_ok0 : FunOK Try.prog 127 spec_l02Own_c0.fn := by
  refine con_ok (Γ := gam []) (gam_nil) tab_ok (by kernel_rfl) Try.func127 (by kernel_rfl) (by kernel_rfl) Try.ntmps127 Try.results127 (loopsOK_none rfl _) 100000 fun args t h => ?_
  unfold spec_l02Own_c0 at h
  split at h
  · rename_i a0
    cases h
    exact ⟨rfl, agree_need (mk := spec_l02Own_mk) (t := spec_l02Own_tree a0) (by unfold Agree; kernel_rfl)⟩
  · cases h
def spec_l02Own_c : Con := fun args => spec_l02Own_c0 (norms 0 [.slc .body] args)
set_option maxRecDepth 100000 in
theorem spec_l02Own_ok : FunOK Try.prog 127 spec_l02Own_c.fn := con_norm [.slc .body] spec_l02Own_ok0

/-- a loop of spec_l02Kick -/
def spec_l02Kick_loop0_step (p : Nat × List Vec) (s : Int × List Body) : Round (Int × List Body) (List Body) :=
  let x0 := ((List.length s.2 : Nat) : Int);
  let x1 := decide (s.1 < x0);
  .ask x1
  (
   .need ((decide (0 ≤ s.1) && decide (s.1 < ((List.length s.2 : Nat) : Int)))) (
   .need ((decide ((Int.toNat s.1) < List.length s.2))) (
   let x2 := List.getD s.2 (Int.toNat s.1) default;
   .need ((decide (0 ≤ s.1) && decide (s.1 < ((List.length p.2 : Nat) : Int)))) (
   .need ((decide ((Int.toNat s.1) < List.length p.2))) (
   let x3 := List.getD p.2 (Int.toNat s.1) default;
   let x4 := spec_l01VScale (⟨x3.X, x3.Y, x3.Z⟩ : Vec) p.1;
   let x5 := spec_l01VAdd (⟨x2.Speed.X, x2.Speed.Y, x2.Speed.Z⟩ : Vec) (⟨x4.X, x4.Y, x4.Z⟩ : Vec);
   .need ((decide (0 ≤ s.1) && decide (s.1 < ((List.length s.2 : Nat) : Int)))) (
   .need ((decide ((Int.toNat s.1) < List.length s.2))) (
   let x6 := List.set s.2 (Int.toNat s.1) (⟨⟨(List.getD s.2 (Int.toNat s.1) default).At.X, (List.getD s.2 (Int.toNat s.1) default).At.Y, (List.getD s.2 (Int.toNat s.1) default).At.Z⟩, ⟨x5.X, x5.Y, x5.Z⟩, (List.getD s.2 (Int.toNat s.1) default).Mass⟩ : Body);
   let x7 := IntKind.wrap .i64 (s.1 + 1);
   .leaf (.inl (x7, x6), [0, 1]))))))))
  (
   .leaf (.inr s.2, [1]))
def spec_l02Kick_loop0_L (p : Nat × List Vec) : LoopS (Int × List Body) (List Body) := { tl := fun s => [.junk, .junk, .flt .f32 p.1, .junk, .junk, .junk, .junk, .junk, .own 0, .junk, .own 1, .int .i64 s.1], hl := fun s => [some (.typed 48 .vec p.2), some (.typed 132 .body s.2)], ex := fun r => .exit 0, otl := fun r => [.junk, .junk, .junk, .junk, .junk, .junk, .junk, .junk, .junk, .junk, .own 0], ohl := fun r => [some (.typed 132 .body r)] }
def spec_l02Kick_loop0_ext : St → Option ((Nat × List Vec) × (Int × List Body) × List Nat) := fun S => match (S.tm 2).unK, (S.tm 8).unK, (S.tm 10).unK, (S.tm 11).unK with
  | .flt .f32 q0, .own i0, .own i1, .int .i64 q1 => (match S.hp i0 with
    | some (.typed 48 .vec q2) => (match S.hp i1 with
    | some (.typed 132 .body q3) => (if nodup [i0, i1] = true then some ((q0, q2), (q1, q3), [i0, i1]) else none)
    | _ => none)
    | _ => none)
  | _, _, _, _ => none
def spec_l02Kick_loop0_post (p : Nat × List Vec) (r : List Body) : DT (Ex × St) := .leaf (.exit 0, LSt [.junk, .junk, .junk, .junk, .junk, .junk, .junk, .junk, .junk, .junk, .own 0] [some (.typed 132 .body r)])
def spec_l02Kick_loop0 (p : Nat × List Vec) (s : Int × List Body) : List Body := loopVal (spec_l02Kick_loop0_step p) s
def spec_l02Kick_loop0_ends (p : Nat × List Vec) (s : Int × List Body) : Bool := loopEnds (spec_l02Kick_loop0_step p) s
def spec_l02Kick_loop0_F : LoopF := loopF spec_l02Kick_loop0_step spec_l02Kick_loop0_ext spec_l02Kick_loop0_post
theorem spec_l02Kick_loop0_hext : ∀ S p s fl, spec_l02Kick_loop0_ext S = some (p, s, fl) → Norm S fl ((spec_l02Kick_loop0_L p).tl s) ((spec_l02Kick_loop0_L p).hl s) (spec_l02Kick_loop0_L p).gl := by
  intro S p s fl h
  unfold spec_l02Kick_loop0_ext at h
  (repeat' split at h) <;> first
    | (cases h; constructor <;> simp_all [spec_l02Kick_loop0_L, keepT, keepH, rens, renH, PV.ren, Blk.ren, fOf, lget, nodup, natIn, lenEq, gtm, PV.unK])
    | cases h
theorem spec_l02Kick_loop0_hpost : ∀ p r e S', (spec_l02Kick_loop0_post p r).get = some (e, S') → e = (spec_l02Kick_loop0_L p).ex r ∧ S' = LSt ((spec_l02Kick_loop0_L p).otl r) ((spec_l02Kick_loop0_L p).ohl r) ((spec_l02Kick_loop0_L p).ogl r) := by
  intro p r e S' h
  unfold spec_l02Kick_loop0_post at h
  simp only [DT.get, Option.some.injEq, Prod.mk.injEq] at h; exact ⟨h.1.symm, h.2.symm⟩

def spec_l02Kick_loops : Nat → Option LoopF := loopTab [(6, spec_l02Kick_loop0_F)]
set_option maxRecDepth 100000 in
theorem spec_l02Kick_l0 : LoopOK Try.prog ⟨gam [(221, spec_l02Pulls_c), (127, spec_l02Own_c), (186, spec_l01VScale_c), (185, spec_l01VAdd_c), (104, spec_l02Give_c)], tab, 48, spec_l02Kick_loops⟩ (lp Try.f184 0) :=
  loopOK_some (F := spec_l02Kick_loop0_F) (by kernel_rfl) (loopF_ok (E := ⟨gam [(221, spec_l02Pulls_c), (127, spec_l02Own_c), (186, spec_l01VScale_c), (185, spec_l01VAdd_c), (104, spec_l02Give_c)], tab, 48, spec_l02Kick_loops⟩) ⟨gam_cons spec_l02Pulls_ok (gam_cons spec_l02Own_ok (gam_cons spec_l01VScale_ok (gam_cons spec_l01VAdd_ok (gam_cons spec_l02Give_ok (gam_nil))))), tab_ok, by kernel_rfl⟩ (fuel := 100000) (loopsOK_list (l := []) (by kernel_rfl) trivial) (L := spec_l02Kick_loop0_L) (fun p s => by unfold AgreeL; exact ⟨by kernel_rfl, by kernel_rfl⟩) (fun _ _ h => Ex.noConfusion h) spec_l02Kick_loop0_hext spec_l02Kick_loop0_hpost)
/-- loop.example/g01284/spec.l02Kick -/
def spec_l02Kick_tree (a0 : List Body) (a1 : Nat) (a2 : Nat) : DT ((Unit) ⊕ (List Body)) :=
  .need ((spec_l02Pulls_need a0 a1)) (
  let x0 := spec_l02Pulls a0 a1;
  .ask ((isL x0))
  (
   .skip (
   .leaf (.inl ())))
  (
   .skip (
   .need ((spec_l02Own_need a0)) (
   let x1 := spec_l02Own a0;
   .need ((spec_l02Kick_loop0_ends (a2, (rightD x0)) (0, x1))) (
   let x2 := spec_l02Kick_loop0 (a2, (rightD x0)) (0, x1);
   .need ((spec_l02Give_need x2)) (
   let x3 := spec_l02Give x2;
   .ask ((isL x3))
   (
    .leaf (.inl ()))
   (
    .leaf (.inr x2))))))))
def spec_l02Kick (a0 : List Body) (a1 : Nat) (a2 : Nat) : (Unit) ⊕ (List Body) := (spec_l02Kick_tree a0 a1 a2).val
def spec_l02Kick_need (a0 : List Body) (a1 : Nat) (a2 : Nat) : Bool := (spec_l02Kick_tree a0 a1 a2).ok
def spec_l02Kick_mk0 (p : Unit) : Ret := ⟨.tup [.nils, .bool false], []⟩
def spec_l02Kick_mk1 (p : List Body) : Ret := ⟨.tup [.own 0, .bool true], [.typed 132 .body p]⟩
def spec_l02Kick_mk : (Unit) ⊕ (List Body) → Ret := fun v => match v with
  | (.inl p) => spec_l02Kick_mk0 p
  | (.inr p) => spec_l02Kick_mk1 p
def spec_l02Kick_forms (v : (Unit) ⊕ (List Body)) : DT Ret := .ask (isL v) (.leaf (spec_l02Kick_mk0 (leftD v))) (.leaf (spec_l02Kick_mk1 (rightD v)))
theorem spec_l02Kick_forms_get : ∀ v, (spec_l02Kick_forms v).get = some (spec_l02Kick_mk v) := by
  intro v
  rcases v with v | v <;> rfl
def spec_l02Kick_c0 : Con := fun args => match args with
  | [.vslc 1 .body a0, .flt .f32 a1, .flt .f32 a2] => some (.need (spec_l02Kick_need a0 a1 a2) (spec_l02Kick_forms (spec_l02Kick a0 a1 a2)))
  | _ => none
set_option maxRecDepth 100000 in
theorem spec_l02Kick_ok0 : FunOK Try.prog 184 spec_l02Kick_c0.fn := by
  refine con_ok (Γ := gam [(221, spec_l02Pulls_c), (127, spec_l02Own_c), (186, spec_l01VScale_c), (185, spec_l01VAdd_c), (104, spec_l02Give_c)]) (gam_cons spec_l02Pulls_ok (gam_cons spec_l02Own_ok (gam_cons spec_l01VScale_ok (gam_cons spec_l01VAdd_ok (gam_cons spec_l02Give_ok (gam_nil)))))) tab_ok (by kernel_rfl) Try.func184 (by kernel_rfl) (by kernel_rfl) Try.ntmps184 Try.results184 (loops := spec_l02Kick_loops) (loopsOK_list (l := [lp Try.f184 0]) (by kernel_rfl) ⟨spec_l02Kick_l0, trivial⟩) 100000 fun args t h => ?_
  unfold spec_l02Kick_c0 at h
  split at h
  · rename_i a0 a1 a2
    cases h
    exact ⟨rfl, agree_forms (mk := spec_l02Kick_mk) (t := spec_l02Kick_tree a0 a1 a2) (by unfold Agree; kernel_rfl) (fun h => h) (spec_l02Kick_forms_get _)⟩
  · cases h
def spec_l02Kick_c : Con := fun args => spec_l02Kick_c0 (norms 0 [.slc .body, .none, .none] args)
set_option maxRecDepth 100000 in
theorem spec_l02Kick_ok : FunOK Try.prog 184 spec_l02Kick_c.fn := con_norm [.slc .body, .none, .none] spec_l02Kick_ok0

/-- a loop of spec_l02Step -/
def spec_l02Step_loop0_step (p : Nat × Nat × Nat) (s : Int × List Body) : Round (Int × List Body) (List Body) :=
  let x0 := ((List.length s.2 : Nat) : Int);
  let x1 := decide (s.1 < x0);
  .ask x1
  (
   .need ((decide (0 ≤ s.1) && decide (s.1 < ((List.length s.2 : Nat) : Int)))) (
   .need ((decide ((Int.toNat s.1) < List.length s.2))) (
   let x2 := List.getD s.2 (Int.toNat s.1) default;
   .need ((decide (0 ≤ s.1) && decide (s.1 < ((List.length s.2 : Nat) : Int)))) (
   .need ((decide ((Int.toNat s.1) < List.length s.2))) (
   let x3 := List.getD s.2 (Int.toNat s.1) default;
   let x4 := spec_l01VScale (⟨x3.Speed.X, x3.Speed.Y, x3.Speed.Z⟩ : Vec) p.2.1;
   let x5 := spec_l01VAdd (⟨x2.At.X, x2.At.Y, x2.At.Z⟩ : Vec) (⟨x4.X, x4.Y, x4.Z⟩ : Vec);
   .need ((decide (0 ≤ s.1) && decide (s.1 < ((List.length s.2 : Nat) : Int)))) (
   .need ((decide ((Int.toNat s.1) < List.length s.2))) (
   let x6 := List.set s.2 (Int.toNat s.1) (⟨⟨x5.X, x5.Y, x5.Z⟩, ⟨(List.getD s.2 (Int.toNat s.1) default).Speed.X, (List.getD s.2 (Int.toNat s.1) default).Speed.Y, (List.getD s.2 (Int.toNat s.1) default).Speed.Z⟩, (List.getD s.2 (Int.toNat s.1) default).Mass⟩ : Body);
   let x7 := IntKind.wrap .i64 (s.1 + 1);
   .leaf (.inl (x7, x6), [0]))))))))
  (
   .leaf (.inr s.2, [0]))
def spec_l02Step_loop0_L (p : Nat × Nat × Nat) : LoopS (Int × List Body) (List Body) := { tl := fun s => [.junk, .flt .f32 p.1, .flt .f32 p.2.1, .junk, .junk, .junk, .junk, .junk, .flt .f32 p.2.2, .own 0, .junk, .int .i64 s.1], hl := fun s => [some (.typed 132 .body s.2)], ex := fun r => .exit 0, otl := fun r => [.junk, .flt .f32 p.1, .junk, .junk, .junk, .junk, .junk, .junk, .flt .f32 p.2.2, .own 0], ohl := fun r => [some (.typed 132 .body r)] }
def spec_l02Step_loop0_ext : St → Option ((Nat × Nat × Nat) × (Int × List Body) × List Nat) := fun S => match (S.tm 1).unK, (S.tm 2).unK, (S.tm 8).unK, (S.tm 9).unK, (S.tm 11).unK with
  | .flt .f32 q0, .flt .f32 q1, .flt .f32 q2, .own i0, .int .i64 q3 => (match S.hp i0 with
    | some (.typed 132 .body q4) => some ((q0, q1, q2), (q3, q4), [i0])
    | _ => none)
  | _, _, _, _, _ => none
def spec_l02Step_loop0_post (p : Nat × Nat × Nat) (r : List Body) : DT (Ex × St) := .leaf (.exit 0, LSt [.junk, .flt .f32 p.1, .junk, .junk, .junk, .junk, .junk, .junk, .flt .f32 p.2.2, .own 0] [some (.typed 132 .body r)])
def spec_l02Step_loop0 (p : Nat × Nat × Nat) (s : Int × List Body) : List Body := loopVal (spec_l02Step_loop0_step p) s
def spec_l02Step_loop0_ends (p : Nat × Nat × Nat) (s : Int × List Body) : Bool := loopEnds (spec_l02Step_loop0_step p) s
def spec_l02Step_loop0_F : LoopF := loopF spec_l02Step_loop0_step spec_l02Step_loop0_ext spec_l02Step_loop0_post
theorem spec_l02Step_loop0_hext : ∀ S p s fl, spec_l02Step_loop0_ext S = some (p, s, fl) → Norm S fl ((spec_l02Step_loop0_L p).tl s) ((spec_l02Step_loop0_L p).hl s) (spec_l02Step_loop0_L p).gl := by
  intro S p s fl h
  unfold spec_l02Step_loop0_ext at h
  (repeat' split at h) <;> first
    | (cases h; constructor <;> simp_all [spec_l02Step_loop0_L, keepT, keepH, rens, renH, PV.ren, Blk.ren, fOf, lget, nodup, natIn, lenEq, gtm, PV.unK])
    | cases h
theorem spec_l02Step_loop0_hpost : ∀ p r e S', (spec_l02Step_loop0_post p r).get = some (e, S') → e = (spec_l02Step_loop0_L p).ex r ∧ S' = LSt ((spec_l02Step_loop0_L p).otl r) ((spec_l02Step_loop0_L p).ohl r) ((spec_l02Step_loop0_L p).ogl r) := by
  intro p r e S' h
  unfold spec_l02Step_loop0_post at h
  simp only [DT.get, Option.some.injEq, Prod.mk.injEq] at h; exact ⟨h.1.symm, h.2.symm⟩

def spec_l02Step_loops : Nat → Option LoopF := loopTab [(6, spec_l02Step_loop0_F)]
set_option maxRecDepth 100000 in
theorem spec_l02Step_l0 : LoopOK Try.prog ⟨gam [(184, spec_l02Kick_c), (186, spec_l01VScale_c), (185, spec_l01VAdd_c), (177, spec_l02Are_c)], tab, 55, spec_l02Step_loops⟩ (lp Try.f118 0) :=
  loopOK_some (F := spec_l02Step_loop0_F) (by kernel_rfl) (loopF_ok (E := ⟨gam [(184, spec_l02Kick_c), (186, spec_l01VScale_c), (185, spec_l01VAdd_c), (177, spec_l02Are_c)], tab, 55, spec_l02Step_loops⟩) ⟨gam_cons spec_l02Kick_ok (gam_cons spec_l01VScale_ok (gam_cons spec_l01VAdd_ok (gam_cons spec_l02Are_ok (gam_nil)))), tab_ok, by kernel_rfl⟩ (fuel := 100000) (loopsOK_list (l := []) (by kernel_rfl) trivial) (L := spec_l02Step_loop0_L) (fun p s => by unfold AgreeL; exact ⟨by kernel_rfl, by kernel_rfl⟩) (fun _ _ h => Ex.noConfusion h) spec_l02Step_loop0_hext spec_l02Step_loop0_hpost)
/-- loop.example/g01284/spec.l02Step -/
def spec_l02Step_tree (a0 : List Body) (a1 : Nat) (a2 : Nat) : DT ((Unit) ⊕ (List Body)) :=
  let x0 := fmul .f32 1056964608 a2;
  .need ((spec_l02Kick_need a0 a1 x0)) (
  let x1 := spec_l02Kick a0 a1 x0;
  .ask ((isL x1))
  (
   .skip (
   .leaf (.inl ())))
  (
   .skip (
   .need ((spec_l02Step_loop0_ends (a1, a2, x0) (0, (rightD x1)))) (
   let x2 := spec_l02Step_loop0 (a1, a2, x0) (0, (rightD x1));
   .need ((spec_l02Are_need x2)) (
   let x3 := spec_l02Are x2;
   .ask (!x3)
   (
    .leaf (.inl ()))
   (
    .need ((spec_l02Kick_need x2 a1 x0)) (
    let x4 := spec_l02Kick x2 a1 x0;
    .ask ((isL x4))
    (
     .leaf (.inl ()))
    (
     .leaf (.inr ((rightD x4)))))))))))
def spec_l02Step (a0 : List Body) (a1 : Nat) (a2 : Nat) : (Unit) ⊕ (List Body) := (spec_l02Step_tree a0 a1 a2).val
def spec_l02Step_need (a0 : List Body) (a1 : Nat) (a2 : Nat) : Bool := (spec_l02Step_tree a0 a1 a2).ok
def spec_l02Step_mk0 (p : Unit) : Ret := ⟨.tup [.nils, .bool false], []⟩
def spec_l02Step_mk1 (p : List Body) : Ret := ⟨.tup [.own 0, .bool true], [.typed 132 .body p]⟩
def spec_l02Step_mk : (Unit) ⊕ (List Body) → Ret := fun v => match v with
  | (.inl p) => spec_l02Step_mk0 p
  | (.inr p) => spec_l02Step_mk1 p
def spec_l02Step_forms (v : (Unit) ⊕ (List Body)) : DT Ret := .ask (isL v) (.leaf (spec_l02Step_mk0 (leftD v))) (.leaf (spec_l02Step_mk1 (rightD v)))
theorem spec_l02Step_forms_get : ∀ v, (spec_l02Step_forms v).get = some (spec_l02Step_mk v) := by
  intro v
  rcases v with v | v <;> rfl
def spec_l02Step_c0 : Con := fun args => match args with
  | [.vslc 1 .body a0, .flt .f32 a1, .flt .f32 a2] => some (.need (spec_l02Step_need a0 a1 a2) (spec_l02Step_forms (spec_l02Step a0 a1 a2)))
  | _ => none
set_option maxRecDepth 100000 in
theorem spec_l02Step_ok0 : FunOK Try.prog 118 spec_l02Step_c0.fn := by
  refine con_ok (Γ := gam [(184, spec_l02Kick_c), (186, spec_l01VScale_c), (185, spec_l01VAdd_c), (177, spec_l02Are_c)]) (gam_cons spec_l02Kick_ok (gam_cons spec_l01VScale_ok (gam_cons spec_l01VAdd_ok (gam_cons spec_l02Are_ok (gam_nil))))) tab_ok (by kernel_rfl) Try.func118 (by kernel_rfl) (by kernel_rfl) Try.ntmps118 Try.results118 (loops := spec_l02Step_loops) (loopsOK_list (l := [lp Try.f118 0]) (by kernel_rfl) ⟨spec_l02Step_l0, trivial⟩) 100000 fun args t h => ?_
  unfold spec_l02Step_c0 at h
  split at h
  · rename_i a0 a1 a2
    cases h
    exact ⟨rfl, agree_forms (mk := spec_l02Step_mk) (t := spec_l02Step_tree a0 a1 a2) (by unfold Agree; kernel_rfl) (fun h => h) (spec_l02Step_forms_get _)⟩
  · cases h
def spec_l02Step_c : Con := fun args => spec_l02Step_c0 (norms 0 [.slc .body, .none, .none] args)
set_option maxRecDepth 100000 in
theorem spec_l02Step_ok : FunOK Try.prog 118 spec_l02Step_c.fn := con_norm [.slc .body, .none, .none] spec_l02Step_ok0

/-- loop.example/g01284/spec.StepBodies -/
def spec_StepBodies_tree (a0 : List Body) (a1 : Nat) (a2 : Nat) : DT ((Unit) ⊕ (List Body)) :=
  .need ((spec_l02Can_need a0 a1 a2)) (
  let x0 := spec_l02Can a0 a1 a2;
  .ask (!x0)
  (
   .leaf (.inl ()))
  (
   .need ((spec_l02Step_need a0 a1 a2)) (
   let x1 := spec_l02Step a0 a1 a2;
   .ask ((isL x1))
   (
    .leaf (.inl ()))
   (
    .leaf (.inr ((rightD x1)))))))
def spec_StepBodies (a0 : List Body) (a1 : Nat) (a2 : Nat) : (Unit) ⊕ (List Body) := (spec_StepBodies_tree a0 a1 a2).val
def spec_StepBodies_need (a0 : List Body) (a1 : Nat) (a2 : Nat) : Bool := (spec_StepBodies_tree a0 a1 a2).ok
def spec_StepBodies_mk0 (p : Unit) : Ret := ⟨.tup [.nils, .bool false], []⟩
def spec_StepBodies_mk1 (p : List Body) : Ret := ⟨.tup [.own 0, .bool true], [.typed 132 .body p]⟩
def spec_StepBodies_mk : (Unit) ⊕ (List Body) → Ret := fun v => match v with
  | (.inl p) => spec_StepBodies_mk0 p
  | (.inr p) => spec_StepBodies_mk1 p
def spec_StepBodies_forms (v : (Unit) ⊕ (List Body)) : DT Ret := .ask (isL v) (.leaf (spec_StepBodies_mk0 (leftD v))) (.leaf (spec_StepBodies_mk1 (rightD v)))
theorem spec_StepBodies_forms_get : ∀ v, (spec_StepBodies_forms v).get = some (spec_StepBodies_mk v) := by
  intro v
  rcases v with v | v <;> rfl
def spec_StepBodies_c0 : Con := fun args => match args with
  | [.vslc 1 .body a0, .flt .f32 a1, .flt .f32 a2] => some (.need (spec_StepBodies_need a0 a1 a2) (spec_StepBodies_forms (spec_StepBodies a0 a1 a2)))
  | _ => none
set_option maxRecDepth 100000 in
theorem spec_StepBodies_ok0 : FunOK Try.prog 42 spec_StepBodies_c0.fn := by
  refine con_ok (Γ := gam [(117, spec_l02Can_c), (118, spec_l02Step_c)]) (gam_cons spec_l02Can_ok (gam_cons spec_l02Step_ok (gam_nil))) tab_ok (by kernel_rfl) Try.func42 (by kernel_rfl) (by kernel_rfl) Try.ntmps42 Try.results42 (loopsOK_none rfl _) 100000 fun args t h => ?_
  unfold spec_StepBodies_c0 at h
  split at h
  · rename_i a0 a1 a2
    cases h
    exact ⟨rfl, agree_forms (mk := spec_StepBodies_mk) (t := spec_StepBodies_tree a0 a1 a2) (by unfold Agree; kernel_rfl) (fun h => h) (spec_StepBodies_forms_get _)⟩
  · cases h
def spec_StepBodies_c : Con := fun args => spec_StepBodies_c0 (norms 0 [.slc .body, .none, .none] args)
set_option maxRecDepth 100000 in
theorem spec_StepBodies_ok : FunOK Try.prog 42 spec_StepBodies_c.fn := con_norm [.slc .body, .none, .none] spec_StepBodies_ok0

/-- loop.example/g01284/impl.isCore -/
def impl_isCore_tree (a0 : Nat) : DT (Bool) :=
  .need ((impl_IsFinite_need a0)) (
  let x0 := impl_IsFinite a0;
  .ask x0
  (
   let x1 := fge .f32 a0 0;
   .leaf x1)
  (
   .leaf false))
def impl_isCore (a0 : Nat) : Bool := (impl_isCore_tree a0).val
def impl_isCore_need (a0 : Nat) : Bool := (impl_isCore_tree a0).ok
def impl_isCore_mk (p : Bool) : Ret := ⟨.bool p, []⟩
def impl_isCore_c : Con := fun args => match args with
  | [.flt .f32 a0] => some (.need (impl_isCore_need a0) (.leaf (impl_isCore_mk (impl_isCore a0))))
  | _ => none
set_option maxRecDepth 100000 in
theorem impl_isCore_ok : FunOK Try.prog 124 impl_isCore_c.fn := by
  refine con_ok (Γ := gam [(92, impl_IsFinite_c)]) (gam_cons impl_IsFinite_ok (gam_nil)) tab_ok (by kernel_rfl) Try.func124 (by kernel_rfl) (by kernel_rfl) Try.ntmps124 Try.results124 (loopsOK_none rfl _) 100000 fun args t h => ?_
  unfold impl_isCore_c at h
  split at h
  · rename_i a0
    cases h
    exact ⟨rfl, agree_need (mk := impl_isCore_mk) (t := impl_isCore_tree a0) (by unfold Agree; kernel_rfl)⟩
  · cases h

/-- loop.example/g01284/impl.LessVectors -/
def impl_LessVectors_tree (a0 : Vec) (a1 : Vec) : DT (Vec) :=
  let x0 := fsub .f32 a0.X a1.X;
  let x1 := fsub .f32 a0.Y a1.Y;
  let x2 := fsub .f32 a0.Z a1.Z;
  .leaf ((⟨x0, x1, x2⟩ : Vec))
def impl_LessVectors (a0 : Vec) (a1 : Vec) : Vec := (impl_LessVectors_tree a0 a1).val
def impl_LessVectors_mk (p : Vec) : Ret := ⟨.agg [.flt .f32 p.X, .flt .f32 p.Y, .flt .f32 p.Z], []⟩
def impl_LessVectors_c : Con := fun args => match args with
  | [.agg [.flt .f32 a0_0, .flt .f32 a0_1, .flt .f32 a0_2], .agg [.flt .f32 a1_0, .flt .f32 a1_1, .flt .f32 a1_2]] => some (.leaf (impl_LessVectors_mk (impl_LessVectors (⟨a0_0, a0_1, a0_2⟩ : Vec) (⟨a1_0, a1_1, a1_2⟩ : Vec))))
  | _ => none
set_option maxRecDepth 100000 in
theorem impl_LessVectors_ok : FunOK Try.prog 192 impl_LessVectors_c.fn := by
  refine con_ok (Γ := gam []) (gam_nil) tab_ok (by kernel_rfl) Try.func192 (by kernel_rfl) (by kernel_rfl) Try.ntmps192 Try.results192 (loopsOK_none rfl _) 100000 fun args t h => ?_
  unfold impl_LessVectors_c at h
  split at h
  · rename_i a0_0 a0_1 a0_2 a1_0 a1_1 a1_2
    cases h
    exact ⟨rfl, agree_tot (mk := impl_LessVectors_mk) (t := impl_LessVectors_tree (⟨a0_0, a0_1, a0_2⟩ : Vec) (⟨a1_0, a1_1, a1_2⟩ : Vec)) (by unfold Agree; kernel_rfl) (by kernel_rfl)⟩
  · cases h

/-- loop.example/g01284/impl.InnerOf -/
def impl_InnerOf_tree (a0 : Vec) (a1 : Vec) : DT (Nat) :=
  let x0 := fmul .f32 a0.X a1.X;
  let x1 := fmul .f32 a0.Y a1.Y;
  let x2 := fadd .f32 x0 x1;
  let x3 := fmul .f32 a0.Z a1.Z;
  let x4 := fadd .f32 x2 x3;
  .leaf x4
def impl_InnerOf (a0 : Vec) (a1 : Vec) : Nat := (impl_InnerOf_tree a0 a1).val
def impl_InnerOf_mk (p : Nat) : Ret := ⟨.flt .f32 p, []⟩
def impl_InnerOf_c : Con := fun args => match args with
  | [.agg [.flt .f32 a0_0, .flt .f32 a0_1, .flt .f32 a0_2], .agg [.flt .f32 a1_0, .flt .f32 a1_1, .flt .f32 a1_2]] => some (.leaf (impl_InnerOf_mk (impl_InnerOf (⟨a0_0, a0_1, a0_2⟩ : Vec) (⟨a1_0, a1_1, a1_2⟩ : Vec))))
  | _ => none
set_option maxRecDepth 100000 in
theorem impl_InnerOf_ok : FunOK Try.prog 176 impl_InnerOf_c.fn := by
  refine con_ok (Γ := gam []) (gam_nil) tab_ok (by kernel_rfl) Try.func176 (by kernel_rfl) (by kernel_rfl) Try.ntmps176 Try.results176 (loopsOK_none rfl _) 100000 fun args t h => ?_
  unfold impl_InnerOf_c at h
  split at h
  · rename_i a0_0 a0_1 a0_2 a1_0 a1_1 a1_2
    cases h
    exact ⟨rfl, agree_tot (mk := impl_InnerOf_mk) (t := impl_InnerOf_tree (⟨a0_0, a0_1, a0_2⟩ : Vec) (⟨a1_0, a1_1, a1_2⟩ : Vec)) (by unfold Agree; kernel_rfl) (by kernel_rfl)⟩
  · cases h

/-- loop.example/g01284/impl.softened -/
def impl_softened_tree (a0 : Vec) (a1 : Nat) : DT (Nat) :=
  let x0 := impl_InnerOf (⟨a0.X, a0.Y, a0.Z⟩ : Vec) (⟨a0.X, a0.Y, a0.Z⟩ : Vec);
  let x1 := fmul .f32 a1 a1;
  let x2 := fadd .f32 x0 x1;
  .leaf x2
def impl_softened (a0 : Vec) (a1 : Nat) : Nat := (impl_softened_tree a0 a1).val
def impl_softened_mk (p : Nat) : Ret := ⟨.flt .f32 p, []⟩
def impl_softened_c : Con := fun args => match args with
  | [.agg [.flt .f32 a0_0, .flt .f32 a0_1, .flt .f32 a0_2], .flt .f32 a1] => some (.leaf (impl_softened_mk (impl_softened (⟨a0_0, a0_1, a0_2⟩ : Vec) a1)))
  | _ => none
set_option maxRecDepth 100000 in
theorem impl_softened_ok : FunOK Try.prog 238 impl_softened_c.fn := by
  refine con_ok (Γ := gam [(176, impl_InnerOf_c)]) (gam_cons impl_InnerOf_ok (gam_nil)) tab_ok (by kernel_rfl) Try.func238 (by kernel_rfl) (by kernel_rfl) Try.ntmps238 Try.results238 (loopsOK_none rfl _) 100000 fun args t h => ?_
  unfold impl_softened_c at h
  split at h
  · rename_i a0_0 a0_1 a0_2 a1
    cases h
    exact ⟨rfl, agree_tot (mk := impl_softened_mk) (t := impl_softened_tree (⟨a0_0, a0_1, a0_2⟩ : Vec) a1) (by unfold Agree; kernel_rfl) (by kernel_rfl)⟩
  · cases h

/-- loop.example/g01284/impl.ScaleVector -/
def impl_ScaleVector_tree (a0 : Vec) (a1 : Nat) : DT (Vec) :=
  let x0 := fmul .f32 a0.X a1;
  let x1 := fmul .f32 a0.Y a1;
  let x2 := fmul .f32 a0.Z a1;
  .leaf ((⟨x0, x1, x2⟩ : Vec))
def impl_ScaleVector (a0 : Vec) (a1 : Nat) : Vec := (impl_ScaleVector_tree a0 a1).val
def impl_ScaleVector_mk (p : Vec) : Ret := ⟨.agg [.flt .f32 p.X, .flt .f32 p.Y, .flt .f32 p.Z], []⟩
def impl_ScaleVector_c : Con := fun args => match args with
  | [.agg [.flt .f32 a0_0, .flt .f32 a0_1, .flt .f32 a0_2], .flt .f32 a1] => some (.leaf (impl_ScaleVector_mk (impl_ScaleVector (⟨a0_0, a0_1, a0_2⟩ : Vec) a1)))
  | _ => none
set_option maxRecDepth 100000 in
theorem impl_ScaleVector_ok : FunOK Try.prog 122 impl_ScaleVector_c.fn := by
  refine con_ok (Γ := gam []) (gam_nil) tab_ok (by kernel_rfl) Try.func122 (by kernel_rfl) (by kernel_rfl) Try.ntmps122 Try.results122 (loopsOK_none rfl _) 100000 fun args t h => ?_
  unfold impl_ScaleVector_c at h
  split at h
  · rename_i a0_0 a0_1 a0_2 a1
    cases h
    exact ⟨rfl, agree_tot (mk := impl_ScaleVector_mk) (t := impl_ScaleVector_tree (⟨a0_0, a0_1, a0_2⟩ : Vec) a1) (by unfold Agree; kernel_rfl) (by kernel_rfl)⟩
  · cases h

/-- loop.example/g01284/impl.AddVectors -/
def impl_AddVectors_tree (a0 : Vec) (a1 : Vec) : DT (Vec) :=
  let x0 := fadd .f32 a0.X a1.X;
  let x1 := fadd .f32 a0.Y a1.Y;
  let x2 := fadd .f32 a0.Z a1.Z;
  .leaf ((⟨x0, x1, x2⟩ : Vec))
def impl_AddVectors (a0 : Vec) (a1 : Vec) : Vec := (impl_AddVectors_tree a0 a1).val
def impl_AddVectors_mk (p : Vec) : Ret := ⟨.agg [.flt .f32 p.X, .flt .f32 p.Y, .flt .f32 p.Z], []⟩
def impl_AddVectors_c : Con := fun args => match args with
  | [.agg [.flt .f32 a0_0, .flt .f32 a0_1, .flt .f32 a0_2], .agg [.flt .f32 a1_0, .flt .f32 a1_1, .flt .f32 a1_2]] => some (.leaf (impl_AddVectors_mk (impl_AddVectors (⟨a0_0, a0_1, a0_2⟩ : Vec) (⟨a1_0, a1_1, a1_2⟩ : Vec))))
  | _ => none
set_option maxRecDepth 100000 in
theorem impl_AddVectors_ok : FunOK Try.prog 121 impl_AddVectors_c.fn := by
  refine con_ok (Γ := gam []) (gam_nil) tab_ok (by kernel_rfl) Try.func121 (by kernel_rfl) (by kernel_rfl) Try.ntmps121 Try.results121 (loopsOK_none rfl _) 100000 fun args t h => ?_
  unfold impl_AddVectors_c at h
  split at h
  · rename_i a0_0 a0_1 a0_2 a1_0 a1_1 a1_2
    cases h
    exact ⟨rfl, agree_tot (mk := impl_AddVectors_mk) (t := impl_AddVectors_tree (⟨a0_0, a0_1, a0_2⟩ : Vec) (⟨a1_0, a1_1, a1_2⟩ : Vec)) (by unfold Agree; kernel_rfl) (by kernel_rfl)⟩
  · cases h

/-- a loop of impl_pull -/
def impl_pull_loop0_step (p : Int × Nat × List Body × Int × Nat × Nat × Nat × Nat × Nat × Nat) (s : Int × Nat × Nat × Nat) : Round (Int × Nat × Nat × Nat) (Nat × Nat × Nat) :=
  let x0 := decide (s.1 < p.2.2.2.1);
  .ask x0
  (
   .need ((decide (0 ≤ s.1) && decide (s.1 < ((List.length p.2.2.1 : Nat) : Int)))) (
   let x1 := List.getD p.2.2.1 (Int.toNat s.1) default;
   let x2 := impl_LessVectors (⟨x1.At.X, x1.At.Y, x1.At.Z⟩ : Vec) (⟨p.2.2.2.2.1, p.2.2.2.2.2.1, p.2.2.2.2.2.2.1⟩ : Vec);
   let x3 := impl_softened (⟨x2.X, x2.Y, x2.Z⟩ : Vec) p.2.1;
   let x4 := (s.1 != p.1);
   .ask x4
   (
    let x5 := fgt .f32 x3 0;
    .ask x5
    (
     .need ((impl_RootNumber_need x3)) (
     let x6 := impl_RootNumber x3;
     let x7 := fmul .f32 x3 x6;
     let x8 := fdiv .f32 x1.Mass x7;
     let x9 := impl_ScaleVector (⟨x2.X, x2.Y, x2.Z⟩ : Vec) x8;
     let x10 := impl_AddVectors (⟨s.2.1, s.2.2.1, s.2.2.2⟩ : Vec) (⟨x9.X, x9.Y, x9.Z⟩ : Vec);
     let x11 := IntKind.wrap .i64 (s.1 + 1);
     .leaf (.inl (x11, x10.X, x10.Y, x10.Z), [0, 1, 2])))
    (
     let x6 := IntKind.wrap .i64 (s.1 + 1);
     .leaf (.inl (x6, s.2.1, s.2.2.1, s.2.2.2), [0, 1, 2])))
   (
    let x5 := IntKind.wrap .i64 (s.1 + 1);
    .leaf (.inl (x5, s.2.1, s.2.2.1, s.2.2.2), [0, 1, 2]))))
  (
   .leaf (.inr (s.2.1, s.2.2.1, s.2.2.2), [1, 2]))
def impl_pull_loop0_L (p : Int × Nat × List Body × Int × Nat × Nat × Nat × Nat × Nat × Nat) : LoopS (Int × Nat × Nat × Nat) (Nat × Nat × Nat) := { tl := fun s => [.junk, .int .i64 p.1, .junk, .flt .f32 p.2.1, .junk, .junk, .ptr 0 0, .junk, .ptr 1 0, .ptr 2 0, .junk, .junk, .junk, .junk, .junk, .vslc 1 .body p.2.2.1, .int .i64 p.2.2.2.1, .int .i64 s.1], hl := fun s => [some (.cells [.flt .f32 p.2.2.2.2.1, .flt .f32 p.2.2.2.2.2.1, .flt .f32 p.2.2.2.2.2.2.1]), some (.cells [.flt .f32 p.2.2.2.2.2.2.2.1, .flt .f32 p.2.2.2.2.2.2.2.2.1, .flt .f32 p.2.2.2.2.2.2.2.2.2]), some (.cells [.flt .f32 s.2.1, .flt .f32 s.2.2.1, .flt .f32 s.2.2.2])], ex := fun r => .exit 0, otl := fun r => [.junk, .junk, .junk, .junk, .junk, .junk, .junk, .junk, .ptr 0 0, .ptr 1 0], ohl := fun r => [some (.cells [.flt .f32 p.2.2.2.2.2.2.2.1, .flt .f32 p.2.2.2.2.2.2.2.2.1, .flt .f32 p.2.2.2.2.2.2.2.2.2]), some (.cells [.flt .f32 r.1, .flt .f32 r.2.1, .flt .f32 r.2.2])] }
def impl_pull_loop0_ext : St → Option ((Int × Nat × List Body × Int × Nat × Nat × Nat × Nat × Nat × Nat) × (Int × Nat × Nat × Nat) × List Nat) := fun S => match (S.tm 1).unK, (S.tm 3).unK, (S.tm 6).unK, (S.tm 8).unK, (S.tm 9).unK, (S.tm 15).unK, (S.tm 16).unK, (S.tm 17).unK with
  | .int .i64 q0, .flt .f32 q1, .ptr i0 0, .ptr i1 0, .ptr i2 0, .vslc 1 .body q2, .int .i64 q3, .int .i64 q4 => (match S.hp i0 with
    | some (.cells [.flt .f32 q5, .flt .f32 q6, .flt .f32 q7]) => (match S.hp i1 with
    | some (.cells [.flt .f32 q8, .flt .f32 q9, .flt .f32 q10]) => (match S.hp i2 with
    | some (.cells [.flt .f32 q11, .flt .f32 q12, .flt .f32 q13]) => (if nodup [i0, i1, i2] = true then some ((q0, q1, q2, q3, q5, q6, q7, q8, q9, q10), (q4, q11, q12, q13), [i0, i1, i2]) else none)
    | _ => none)
    | _ => none)
    | _ => none)
  | _, _, _, _, _, _, _, _ => none
def impl_pull_loop0_post (p : Int × Nat × List Body × Int × Nat × Nat × Nat × Nat × Nat × Nat) (r : Nat × Nat × Nat) : DT (Ex × St) := .leaf (.exit 0, LSt [.junk, .junk, .junk, .junk, .junk, .junk, .junk, .junk, .ptr 0 0, .ptr 1 0] [some (.cells [.flt .f32 p.2.2.2.2.2.2.2.1, .flt .f32 p.2.2.2.2.2.2.2.2.1, .flt .f32 p.2.2.2.2.2.2.2.2.2]), some (.cells [.flt .f32 r.1, .flt .f32 r.2.1, .flt .f32 r.2.2])])
def impl_pull_loop0 (p : Int × Nat × List Body × Int × Nat × Nat × Nat × Nat × Nat × Nat) (s : Int × Nat × Nat × Nat) : Nat × Nat × Nat := loopVal (impl_pull_loop0_step p) s
def impl_pull_loop0_ends (p : Int × Nat × List Body × Int × Nat × Nat × Nat × Nat × Nat × Nat) (s : Int × Nat × Nat × Nat) : Bool := loopEnds (impl_pull_loop0_step p) s
def impl_pull_loop0_F : LoopF := loopF impl_pull_loop0_step impl_pull_loop0_ext impl_pull_loop0_post
theorem impl_pull_loop0_hext : ∀ S p s fl, impl_pull_loop0_ext S = some (p, s, fl) → Norm S fl ((impl_pull_loop0_L p).tl s) ((impl_pull_loop0_L p).hl s) (impl_pull_loop0_L p).gl := by
  intro S p s fl h
  unfold impl_pull_loop0_ext at h
  (repeat' split at h) <;> first
    | (cases h; constructor <;> simp_all [impl_pull_loop0_L, keepT, keepH, rens, renH, PV.ren, Blk.ren, fOf, lget, nodup, natIn, lenEq, gtm, PV.unK])
    | cases h
theorem impl_pull_loop0_hpost : ∀ p r e S', (impl_pull_loop0_post p r).get = some (e, S') → e = (impl_pull_loop0_L p).ex r ∧ S' = LSt ((impl_pull_loop0_L p).otl r) ((impl_pull_loop0_L p).ohl r) ((impl_pull_loop0_L p).ogl r) := by
  intro p r e S' h
  unfold impl_pull_loop0_post at h
  simp only [DT.get, Option.some.injEq, Prod.mk.injEq] at h; exact ⟨h.1.symm, h.2.symm⟩

def impl_pull_loops : Nat → Option LoopF := loopTab [(3, impl_pull_loop0_F)]
set_option maxRecDepth 100000 in
theorem impl_pull_l0 : LoopOK Try.prog ⟨gam [(192, impl_LessVectors_c), (238, impl_softened_c), (93, impl_RootNumber_c), (122, impl_ScaleVector_c), (121, impl_AddVectors_c)], tab, 49, impl_pull_loops⟩ (lp Try.f234 0) :=
  loopOK_some (F := impl_pull_loop0_F) (by kernel_rfl) (loopF_ok (E := ⟨gam [(192, impl_LessVectors_c), (238, impl_softened_c), (93, impl_RootNumber_c), (122, impl_ScaleVector_c), (121, impl_AddVectors_c)], tab, 49, impl_pull_loops⟩) ⟨gam_cons impl_LessVectors_ok (gam_cons impl_softened_ok (gam_cons impl_RootNumber_ok (gam_cons impl_ScaleVector_ok (gam_cons impl_AddVectors_ok (gam_nil))))), tab_ok, by kernel_rfl⟩ (fuel := 100000) (loopsOK_list (l := []) (by kernel_rfl) trivial) (L := impl_pull_loop0_L) (fun p s => by unfold AgreeL; exact ⟨by kernel_rfl, by kernel_rfl⟩) (fun _ _ h => Ex.noConfusion h) impl_pull_loop0_hext impl_pull_loop0_hpost)
/-- loop.example/g01284/impl.pull -/
def impl_pull_tree (a0 : List Body) (a1 : Int) (a2 : Vec) (a3 : Nat) : DT (Vec) :=
  let x0 := ((List.length a0 : Nat) : Int);
  .need ((impl_pull_loop0_ends (a1, a3, a0, x0, a2.X, a2.Y, a2.Z, 0, 0, 0) (0, 0, 0, 0))) (
  let x1 := impl_pull_loop0 (a1, a3, a0, x0, a2.X, a2.Y, a2.Z, 0, 0, 0) (0, 0, 0, 0);
  .leaf ((⟨x1.1, x1.2.1, x1.2.2⟩ : Vec)))
def impl_pull (a0 : List Body) (a1 : Int) (a2 : Vec) (a3 : Nat) : Vec := (impl_pull_tree a0 a1 a2 a3).val
def impl_pull_need (a0 : List Body) (a1 : Int) (a2 : Vec) (a3 : Nat) : Bool := (impl_pull_tree a0 a1 a2 a3).ok
def impl_pull_mk (p : Vec) : Ret := ⟨.agg [.flt .f32 p.X, .flt .f32 p.Y, .flt .f32 p.Z], []⟩
def impl_pull_c0 : Con := fun args => match args with
  | [.vslc 1 .body a0, .int .i64 a1, .agg [.flt .f32 a2_0, .flt .f32 a2_1, .flt .f32 a2_2], .flt .f32 a3] => some (.need (impl_pull_need a0 a1 (⟨a2_0, a2_1, a2_2⟩ : Vec) a3) (.leaf (impl_pull_mk (impl_pull a0 a1 (⟨a2_0, a2_1, a2_2⟩ : Vec) a3))))
  | _ => none
set_option maxRecDepth 100000 in
theorem impl_pull_ok0 : FunOK Try.prog 234 impl_pull_c0.fn := by
  refine con_ok (Γ := gam [(192, impl_LessVectors_c), (238, impl_softened_c), (93, impl_RootNumber_c), (122, impl_ScaleVector_c), (121, impl_AddVectors_c)]) (gam_cons impl_LessVectors_ok (gam_cons impl_softened_ok (gam_cons impl_RootNumber_ok (gam_cons impl_ScaleVector_ok (gam_cons impl_AddVectors_ok (gam_nil)))))) tab_ok (by kernel_rfl) Try.func234 (by kernel_rfl) (by kernel_rfl) Try.ntmps234 Try.results234 (loops := impl_pull_loops) (loopsOK_list (l := [lp Try.f234 0]) (by kernel_rfl) ⟨impl_pull_l0, trivial⟩) 100000 fun args t h => ?_
  unfold impl_pull_c0 at h
  split at h
  · rename_i a0 a1 a2_0 a2_1 a2_2 a3
    cases h
    exact ⟨rfl, agree_need (mk := impl_pull_mk) (t := impl_pull_tree a0 a1 (⟨a2_0, a2_1, a2_2⟩ : Vec) a3) (by unfold Agree; kernel_rfl)⟩
  · cases h
def impl_pull_c : Con := fun args => impl_pull_c0 (norms 0 [.slc .body, .none, .none, .none] args)
set_option maxRecDepth 100000 in
theorem impl_pull_ok : FunOK Try.prog 234 impl_pull_c.fn := con_norm [.slc .body, .none, .none, .none] impl_pull_ok0

/-- a loop of impl_pulls -/
def impl_pulls_loop0_step (p : List Body × Nat × List Body × Int) (s : Int × List Vec) : Round (Int × List Vec) ((Unit) ⊕ (List Vec)) :=
  let x0 := decide (s.1 < p.2.2.2);
  .ask x0
  (
   .need ((decide (0 ≤ s.1) && decide (s.1 < ((List.length p.2.2.1 : Nat) : Int)))) (
   let x1 := List.getD p.2.2.1 (Int.toNat s.1) default;
   .need ((impl_pull_need p.1 s.1 (⟨x1.At.X, x1.At.Y, x1.At.Z⟩ : Vec) p.2.1)) (
   let x2 := impl_pull p.1 s.1 (⟨x1.At.X, x1.At.Y, x1.At.Z⟩ : Vec) p.2.1;
   .need ((impl_isFiniteVector_need (⟨x2.X, x2.Y, x2.Z⟩ : Vec))) (
   let x3 := impl_isFiniteVector (⟨x2.X, x2.Y, x2.Z⟩ : Vec);
   .ask (!x3)
   (
    .leaf (.inr (.inl ()), []))
   (
    .need ((decide ((List.length s.2 + List.length [(⟨x2.X, x2.Y, x2.Z⟩ : Vec)]) * 12 ≤ 140737488355328) && decide (List.length s.2 + List.length [(⟨x2.X, x2.Y, x2.Z⟩ : Vec)] ≤ 9223372036854775807))) (
    let x4 := s.2 ++ [(⟨x2.X, x2.Y, x2.Z⟩ : Vec)];
    let x5 := IntKind.wrap .i64 (s.1 + 1);
    .leaf (.inl (x5, x4), [169])))))))
  (
   .leaf (.inr (.inr s.2), [0]))
def impl_pulls_loop0_L (p : List Body × Nat × List Body × Int) : LoopS (Int × List Vec) ((Unit) ⊕ (List Vec)) := { tl := fun s => [.vslc 1 .body p.1, .flt .f32 p.2.1, .junk, .junk, .junk, .junk, .own 0, .junk, .junk, .junk, .junk, .vslc 1 .body p.2.2.1, .int .i64 p.2.2.2, .int .i64 s.1], hl := fun s => [some (.typed 48 .vec s.2)], ex := fun r => match r with | .inl r => .ret | .inr r => .exit 0, otl := fun r => match r with | .inl r => [.junk, .junk, .junk, .junk, .nils, .bool false] | .inr r => [.junk, .junk, .junk, .junk, .junk, .junk, .own 0], ohl := fun r => match r with | .inl r => [] | .inr r => [some (.typed 48 .vec r)] }
def impl_pulls_loop0_ext : St → Option ((List Body × Nat × List Body × Int) × (Int × List Vec) × List Nat) := fun S => match (S.tm 0).unK, (S.tm 1).unK, (S.tm 6).unK, (S.tm 11).unK, (S.tm 12).unK, (S.tm 13).unK with
  | .vslc 1 .body q0, .flt .f32 q1, .own i0, .vslc 1 .body q2, .int .i64 q3, .int .i64 q4 => (match S.hp i0 with
    | some (.typed 48 .vec q5) => some ((q0, q1, q2, q3), (q4, q5), [i0])
    | _ => none)
  | _, _, _, _, _, _ => none
def impl_pulls_loop0_post (p : List Body × Nat × List Body × Int) (r : (Unit) ⊕ (List Vec)) : DT (Ex × St) := .ask (isL r) (.leaf (.ret, LSt [.junk, .junk, .junk, .junk, .nils, .bool false] [])) (.leaf (.exit 0, LSt [.junk, .junk, .junk, .junk, .junk, .junk, .own 0] [some (.typed 48 .vec ((rightD r)))]))
def impl_pulls_loop0 (p : List Body × Nat × List Body × Int) (s : Int × List Vec) : (Unit) ⊕ (List Vec) := loopVal (impl_pulls_loop0_step p) s
def impl_pulls_loop0_ends (p : List Body × Nat × List Body × Int) (s : Int × List Vec) : Bool := loopEnds (impl_pulls_loop0_step p) s
def impl_pulls_loop0_F : LoopF := loopF impl_pulls_loop0_step impl_pulls_loop0_ext impl_pulls_loop0_post
theorem impl_pulls_loop0_hext : ∀ S p s fl, impl_pulls_loop0_ext S = some (p, s, fl) → Norm S fl ((impl_pulls_loop0_L p).tl s) ((impl_pulls_loop0_L p).hl s) (impl_pulls_loop0_L p).gl := by
  intro S p s fl h
  unfold impl_pulls_loop0_ext at h
  (repeat' split at h) <;> first
    | (cases h; constructor <;> simp_all [impl_pulls_loop0_L, keepT, keepH, rens, renH, PV.ren, Blk.ren, fOf, lget, nodup, natIn, lenEq, gtm, PV.unK])
    | cases h
theorem impl_pulls_loop0_hpost : ∀ p r e S', (impl_pulls_loop0_post p r).get = some (e, S') → e = (impl_pulls_loop0_L p).ex r ∧ S' = LSt ((impl_pulls_loop0_L p).otl r) ((impl_pulls_loop0_L p).ohl r) ((impl_pulls_loop0_L p).ogl r) := by
  intro p r e S' h
  unfold impl_pulls_loop0_post at h
  cases r <;> (simp only [isL, DT.get, Option.some.injEq, Prod.mk.injEq] at h; exact ⟨h.1.symm, h.2.symm⟩)

def impl_pulls_loops : Nat → Option LoopF := loopTab [(3, impl_pulls_loop0_F)]
set_option maxRecDepth 100000 in
theorem impl_pulls_l0 : LoopOK Try.prog ⟨gam [(234, impl_pull_c), (91, impl_isFiniteVector_c)], tab, 33, impl_pulls_loops⟩ (lp Try.f222 0) :=
  loopOK_some (F := impl_pulls_loop0_F) (by kernel_rfl) (loopF_ok (E := ⟨gam [(234, impl_pull_c), (91, impl_isFiniteVector_c)], tab, 33, impl_pulls_loops⟩) ⟨gam_cons impl_pull_ok (gam_cons impl_isFiniteVector_ok (gam_nil)), tab_ok, by kernel_rfl⟩ (fuel := 100000) (loopsOK_list (l := []) (by kernel_rfl) trivial) (L := impl_pulls_loop0_L) (fun p s => by unfold AgreeL; exact ⟨by kernel_rfl, by kernel_rfl⟩) (fun _ r h => by cases r <;> exact Ex.noConfusion h) impl_pulls_loop0_hext impl_pulls_loop0_hpost)
/-- loop.example/g01284/impl.pulls -/
def impl_pulls_tree (a0 : List Body) (a1 : Nat) : DT ((Unit) ⊕ (List Vec)) :=
  let x0 := ((List.length a0 : Nat) : Int);
  .need ((impl_pulls_loop0_ends (a0, a1, a0, x0) (0, []))) (
  let x1 := impl_pulls_loop0 (a0, a1, a0, x0) (0, []);
  .ask ((isL x1))
  (
   .leaf (.inl ()))
  (
   .leaf (.inr ((rightD x1)))))
def impl_pulls (a0 : List Body) (a1 : Nat) : (Unit) ⊕ (List Vec) := (impl_pulls_tree a0 a1).val
def impl_pulls_need (a0 : List Body) (a1 : Nat) : Bool := (impl_pulls_tree a0 a1).ok
def impl_pulls_mk0 (p : Unit) : Ret := ⟨.tup [.nils, .bool false], []⟩
def impl_pulls_mk1 (p : List Vec) : Ret := ⟨.tup [.own 0, .bool true], [.typed 48 .vec p]⟩
def impl_pulls_mk : (Unit) ⊕ (List Vec) → Ret := fun v => match v with
  | (.inl p) => impl_pulls_mk0 p
  | (.inr p) => impl_pulls_mk1 p
def impl_pulls_forms (v : (Unit) ⊕ (List Vec)) : DT Ret := .ask (isL v) (.leaf (impl_pulls_mk0 (leftD v))) (.leaf (impl_pulls_mk1 (rightD v)))
theorem impl_pulls_forms_get : ∀ v, (impl_pulls_forms v).get = some (impl_pulls_mk v) := by
  intro v
  rcases v with v | v <;> rfl
def impl_pulls_c0 : Con := fun args => match args with
  | [.vslc 1 .body a0, .flt .f32 a1] => some (.need (impl_pulls_need a0 a1) (impl_pulls_forms (impl_pulls a0 a1)))
  | _ => none
set_option maxRecDepth 100000 in
theorem impl_pulls_ok0 : FunOK Try.prog 222 impl_pulls_c0.fn := by
  refine con_ok (Γ := gam [(234, impl_pull_c), (91, impl_isFiniteVector_c)]) (gam_cons impl_pull_ok (gam_cons impl_isFiniteVector_ok (gam_nil))) tab_ok (by kernel_rfl) Try.func222 (by kernel_rfl) (by kernel_rfl) Try.ntmps222 Try.results222 (loops := impl_pulls_loops) (loopsOK_list (l := [lp Try.f222 0]) (by kernel_rfl) ⟨impl_pulls_l0, trivial⟩) 100000 fun args t h => ?_
  unfold impl_pulls_c0 at h
  split at h
  · rename_i a0 a1
    cases h
    exact ⟨rfl, agree_forms (mk := impl_pulls_mk) (t := impl_pulls_tree a0 a1) (by unfold Agree; kernel_rfl) (fun h => h) (impl_pulls_forms_get _)⟩
  · cases h
def impl_pulls_c : Con := fun args => impl_pulls_c0 (norms 0 [.slc .body, .none] args)
set_option maxRecDepth 100000 in
theorem impl_pulls_ok : FunOK Try.prog 222 impl_pulls_c.fn := con_norm [.slc .body, .none] impl_pulls_ok0

/-- loop.example/g01284/impl.PullsOf -/
def impl_PullsOf_tree (a0 : List Body) (a1 : Nat) : DT ((Unit) ⊕ (List Vec)) :=
  .need ((impl_AreBodies_need a0)) (
  let x0 := impl_AreBodies a0;
  .ask (!x0)
  (
   .leaf (.inl ()))
  (
   .need ((impl_isCore_need a1)) (
   let x1 := impl_isCore a1;
   .ask (!x1)
   (
    .leaf (.inl ()))
   (
    .need ((impl_pulls_need a0 a1)) (
    let x2 := impl_pulls a0 a1;
    .ask ((isL x2))
    (
     .leaf (.inl ()))
    (
     .leaf (.inr ((rightD x2)))))))))
def impl_PullsOf (a0 : List Body) (a1 : Nat) : (Unit) ⊕ (List Vec) := (impl_PullsOf_tree a0 a1).val
def impl_PullsOf_need (a0 : List Body) (a1 : Nat) : Bool := (impl_PullsOf_tree a0 a1).ok
def impl_PullsOf_mk0 (p : Unit) : Ret := ⟨.tup [.nils, .bool false], []⟩
def impl_PullsOf_mk1 (p : List Vec) : Ret := ⟨.tup [.own 0, .bool true], [.typed 48 .vec p]⟩
def impl_PullsOf_mk : (Unit) ⊕ (List Vec) → Ret := fun v => match v with
  | (.inl p) => impl_PullsOf_mk0 p
  | (.inr p) => impl_PullsOf_mk1 p
def impl_PullsOf_forms (v : (Unit) ⊕ (List Vec)) : DT Ret := .ask (isL v) (.leaf (impl_PullsOf_mk0 (leftD v))) (.leaf (impl_PullsOf_mk1 (rightD v)))
theorem impl_PullsOf_forms_get : ∀ v, (impl_PullsOf_forms v).get = some (impl_PullsOf_mk v) := by
  intro v
  rcases v with v | v <;> rfl
def impl_PullsOf_c0 : Con := fun args => match args with
  | [.vslc 1 .body a0, .flt .f32 a1] => some (.need (impl_PullsOf_need a0 a1) (impl_PullsOf_forms (impl_PullsOf a0 a1)))
  | _ => none
set_option maxRecDepth 100000 in
theorem impl_PullsOf_ok0 : FunOK Try.prog 187 impl_PullsOf_c0.fn := by
  refine con_ok (Γ := gam [(123, impl_AreBodies_c), (124, impl_isCore_c), (222, impl_pulls_c)]) (gam_cons impl_AreBodies_ok (gam_cons impl_isCore_ok (gam_cons impl_pulls_ok (gam_nil)))) tab_ok (by kernel_rfl) Try.func187 (by kernel_rfl) (by kernel_rfl) Try.ntmps187 Try.results187 (loopsOK_none rfl _) 100000 fun args t h => ?_
  unfold impl_PullsOf_c0 at h
  split at h
  · rename_i a0 a1
    cases h
    exact ⟨rfl, agree_forms (mk := impl_PullsOf_mk) (t := impl_PullsOf_tree a0 a1) (by unfold Agree; kernel_rfl) (fun h => h) (impl_PullsOf_forms_get _)⟩
  · cases h
def impl_PullsOf_c : Con := fun args => impl_PullsOf_c0 (norms 0 [.slc .body, .none] args)
set_option maxRecDepth 100000 in
theorem impl_PullsOf_ok : FunOK Try.prog 187 impl_PullsOf_c.fn := con_norm [.slc .body, .none] impl_PullsOf_ok0

/-- a loop of impl_pushed -/
def impl_pushed_loop0_step (p : Nat × List Body × Int × List Vec) (s : Int × List Body) : Round (Int × List Body) (List Body) :=
  let x0 := decide (s.1 < p.2.2.1);
  .ask x0
  (
   .need ((decide (0 ≤ s.1) && decide (s.1 < ((List.length p.2.1 : Nat) : Int)))) (
   let x1 := List.getD p.2.1 (Int.toNat s.1) default;
   .skip (
   .need ((decide (0 ≤ s.1) && decide (s.1 < ((List.length p.2.2.2 : Nat) : Int)))) (
   .need ((decide ((Int.toNat s.1) < List.length p.2.2.2))) (
   let x2 := List.getD p.2.2.2 (Int.toNat s.1) default;
   let x3 := impl_ScaleVector (⟨x2.X, x2.Y, x2.Z⟩ : Vec) p.1;
   let x4 := impl_AddVectors (⟨x1.Speed.X, x1.Speed.Y, x1.Speed.Z⟩ : Vec) (⟨x3.X, x3.Y, x3.Z⟩ : Vec);
   .need ((decide ((List.length s.2 + List.length [(⟨⟨x1.At.X, x1.At.Y, x1.At.Z⟩, ⟨x4.X, x4.Y, x4.Z⟩, x1.Mass⟩ : Body)]) * 28 ≤ 140737488355328) && decide (List.length s.2 + List.length [(⟨⟨x1.At.X, x1.At.Y, x1.At.Z⟩, ⟨x4.X, x4.Y, x4.Z⟩, x1.Mass⟩ : Body)] ≤ 9223372036854775807))) (
   let x5 := s.2 ++ [(⟨⟨x1.At.X, x1.At.Y, x1.At.Z⟩, ⟨x4.X, x4.Y, x4.Z⟩, x1.Mass⟩ : Body)];
   let x6 := IntKind.wrap .i64 (s.1 + 1);
   .leaf (.inl (x6, x5), [0, 186])))))))
  (
   .leaf (.inr s.2, [1]))
def impl_pushed_loop0_L (p : Nat × List Body × Int × List Vec) : LoopS (Int × List Body) (List Body) := { tl := fun s => [.junk, .junk, .flt .f32 p.1, .junk, .junk, .junk, .junk, .junk, .own 0, .bool true, .own 1, .junk, .junk, .junk, .junk, .junk, .junk, .junk, .junk, .junk, .vslc 1 .body p.2.1, .int .i64 p.2.2.1, .int .i64 s.1], hl := fun s => [some (.typed 48 .vec p.2.2.2), some (.typed 132 .body s.2)], ex := fun r => .exit 0, otl := fun r => [.junk, .junk, .junk, .junk, .junk, .junk, .junk, .junk, .junk, .bool true, .own 0], ohl := fun r => [some (.typed 132 .body r)] }
def impl_pushed_loop0_ext : St → Option ((Nat × List Body × Int × List Vec) × (Int × List Body) × List Nat) := fun S => match (S.tm 2).unK, (S.tm 8).unK, (S.tm 9).unK, (S.tm 10).unK, (S.tm 20).unK, (S.tm 21).unK, (S.tm 22).unK with
  | .flt .f32 q0, .own i0, .bool true, .own i1, .vslc 1 .body q2, .int .i64 q3, .int .i64 q4 => (match S.hp i0 with
    | some (.typed 48 .vec q5) => (match S.hp i1 with
    | some (.typed 132 .body q6) => (if nodup [i0, i1] = true then some ((q0, q2, q3, q5), (q4, q6), [i0, i1]) else none)
    | _ => none)
    | _ => none)
  | _, _, _, _, _, _, _ => none
def impl_pushed_loop0_post (p : Nat × List Body × Int × List Vec) (r : List Body) : DT (Ex × St) := .leaf (.exit 0, LSt [.junk, .junk, .junk, .junk, .junk, .junk, .junk, .junk, .junk, .bool true, .own 0] [some (.typed 132 .body r)])
def impl_pushed_loop0 (p : Nat × List Body × Int × List Vec) (s : Int × List Body) : List Body := loopVal (impl_pushed_loop0_step p) s
def impl_pushed_loop0_ends (p : Nat × List Body × Int × List Vec) (s : Int × List Body) : Bool := loopEnds (impl_pushed_loop0_step p) s
def impl_pushed_loop0_F : LoopF := loopF impl_pushed_loop0_step impl_pushed_loop0_ext impl_pushed_loop0_post
theorem impl_pushed_loop0_hext : ∀ S p s fl, impl_pushed_loop0_ext S = some (p, s, fl) → Norm S fl ((impl_pushed_loop0_L p).tl s) ((impl_pushed_loop0_L p).hl s) (impl_pushed_loop0_L p).gl := by
  intro S p s fl h
  unfold impl_pushed_loop0_ext at h
  (repeat' split at h) <;> first
    | (cases h; constructor <;> simp_all [impl_pushed_loop0_L, keepT, keepH, rens, renH, PV.ren, Blk.ren, fOf, lget, nodup, natIn, lenEq, gtm, PV.unK])
    | cases h
theorem impl_pushed_loop0_hpost : ∀ p r e S', (impl_pushed_loop0_post p r).get = some (e, S') → e = (impl_pushed_loop0_L p).ex r ∧ S' = LSt ((impl_pushed_loop0_L p).otl r) ((impl_pushed_loop0_L p).ohl r) ((impl_pushed_loop0_L p).ogl r) := by
  intro p r e S' h
  unfold impl_pushed_loop0_post at h
  simp only [DT.get, Option.some.injEq, Prod.mk.injEq] at h; exact ⟨h.1.symm, h.2.symm⟩

def impl_pushed_loops : Nat → Option LoopF := loopTab [(4, impl_pushed_loop0_F)]
set_option maxRecDepth 100000 in
theorem impl_pushed_l0 : LoopOK Try.prog ⟨gam [(187, impl_PullsOf_c), (122, impl_ScaleVector_c), (121, impl_AddVectors_c)], tab, 46, impl_pushed_loops⟩ (lp Try.f120 0) :=
  loopOK_some (F := impl_pushed_loop0_F) (by kernel_rfl) (loopF_ok (E := ⟨gam [(187, impl_PullsOf_c), (122, impl_ScaleVector_c), (121, impl_AddVectors_c)], tab, 46, impl_pushed_loops⟩) ⟨gam_cons impl_PullsOf_ok (gam_cons impl_ScaleVector_ok (gam_cons impl_AddVectors_ok (gam_nil))), tab_ok, by kernel_rfl⟩ (fuel := 100000) (loopsOK_list (l := []) (by kernel_rfl) trivial) (L := impl_pushed_loop0_L) (fun p s => by unfold AgreeL; exact ⟨by kernel_rfl, by kernel_rfl⟩) (fun _ _ h => Ex.noConfusion h) impl_pushed_loop0_hext impl_pushed_loop0_hpost)
/-- loop.example/g01284/impl.pushed -/
def impl_pushed_tree (a0 : List Body) (a1 : Nat) (a2 : Nat) : DT ((Unit) ⊕ (List Body × Bool)) :=
  .need ((impl_PullsOf_need a0 a1)) (
  let x0 := impl_PullsOf a0 a1;
  .ask ((isL x0))
  (
   let x1 := ((List.length a0 : Nat) : Int);
   let x2 := decide (0 < x1);
   .ask x2
   (
    .need ((decide (0 ≤ 0) && decide (0 < ((List.length a0 : Nat) : Int)))) (
    let x3 := List.getD a0 0 default;
    .skip (
    .leaf (.inl ()))))
   (
    .leaf (.inr ([], false))))
  (
   let x1 := ((List.length a0 : Nat) : Int);
   .need ((impl_pushed_loop0_ends (a2, a0, x1, (rightD x0)) (0, []))) (
   let x2 := impl_pushed_loop0 (a2, a0, x1, (rightD x0)) (0, []);
   .leaf (.inr (x2, true)))))
def impl_pushed (a0 : List Body) (a1 : Nat) (a2 : Nat) : (Unit) ⊕ (List Body × Bool) := (impl_pushed_tree a0 a1 a2).val
def impl_pushed_need (a0 : List Body) (a1 : Nat) (a2 : Nat) : Bool := (impl_pushed_tree a0 a1 a2).ok
def impl_pushed_mk0 (p : Unit) : Ret := ⟨.tup [.nils, .bool false], []⟩
def impl_pushed_mk1 (p : List Body × Bool) : Ret := ⟨.tup [.own 0, .bool p.2], [.typed 132 .body p.1]⟩
def impl_pushed_mk : (Unit) ⊕ (List Body × Bool) → Ret := fun v => match v with
  | (.inl p) => impl_pushed_mk0 p
  | (.inr p) => impl_pushed_mk1 p
def impl_pushed_forms (v : (Unit) ⊕ (List Body × Bool)) : DT Ret := .ask (isL v) (.leaf (impl_pushed_mk0 (leftD v))) (.leaf (impl_pushed_mk1 (rightD v)))
theorem impl_pushed_forms_get : ∀ v, (impl_pushed_forms v).get = some (impl_pushed_mk v) := by
  intro v
  rcases v with v | v <;> rfl
def impl_pushed_c0 : Con := fun args => match args with
  | [.vslc 1 .body a0, .flt .f32 a1, .flt .f32 a2] => some (.need (impl_pushed_need a0 a1 a2) (impl_pushed_forms (impl_pushed a0 a1 a2)))
  | _ => none
set_option maxRecDepth 100000 in
theorem impl_pushed_ok0 : FunOK Try.prog 120 impl_pushed_c0.fn := by
  refine con_ok (Γ := gam [(187, impl_PullsOf_c), (122, impl_ScaleVector_c), (121, impl_AddVectors_c)]) (gam_cons impl_PullsOf_ok (gam_cons impl_ScaleVector_ok (gam_cons impl_AddVectors_ok (gam_nil)))) tab_ok (by kernel_rfl) Try.func120 (by kernel_rfl) (by kernel_rfl) Try.ntmps120 Try.results120 (loops := impl_pushed_loops) (loopsOK_list (l := [lp Try.f120 0]) (by kernel_rfl) ⟨impl_pushed_l0, trivial⟩) 100000 fun args t h => ?_
  unfold impl_pushed_c0 at h
  split at h
  · rename_i a0 a1 a2
    cases h
    exact ⟨rfl, agree_forms (mk := impl_pushed_mk) (t := impl_pushed_tree a0 a1 a2) (by unfold Agree; kernel_rfl) (fun h => h) (impl_pushed_forms_get _)⟩
  · cases h
def impl_pushed_c : Con := fun args => impl_pushed_c0 (norms 0 [.slc .body, .none, .none] args)
set_option maxRecDepth 100000 in
theorem impl_pushed_ok : FunOK Try.prog 120 impl_pushed_c.fn := con_norm [.slc .body, .none, .none] impl_pushed_ok0

/-- a loop of impl_StepBodies -/
def impl_StepBodies_loop0_step (p : Nat × Nat × Nat × Int) (s : Int × List Body) : Round (Int × List Body) (List Body) :=
  let x0 := decide (s.1 < p.2.2.2);
  .ask x0
  (
   .need ((decide (0 ≤ s.1) && decide (s.1 < ((List.length s.2 : Nat) : Int)))) (
   .need ((decide ((Int.toNat s.1) < List.length s.2))) (
   let x1 := List.getD s.2 (Int.toNat s.1) default;
   .need ((decide (0 ≤ s.1) && decide (s.1 < ((List.length s.2 : Nat) : Int)))) (
   .need ((decide ((Int.toNat s.1) < List.length s.2))) (
   let x2 := List.getD s.2 (Int.toNat s.1) default;
   let x3 := impl_ScaleVector (⟨x2.Speed.X, x2.Speed.Y, x2.Speed.Z⟩ : Vec) p.2.1;
   let x4 := impl_AddVectors (⟨x1.At.X, x1.At.Y, x1.At.Z⟩ : Vec) (⟨x3.X, x3.Y, x3.Z⟩ : Vec);
   .need ((decide (0 ≤ s.1) && decide (s.1 < ((List.length s.2 : Nat) : Int)))) (
   .need ((decide ((Int.toNat s.1) < List.length s.2))) (
   let x5 := List.set s.2 (Int.toNat s.1) (⟨⟨x4.X, x4.Y, x4.Z⟩, ⟨(List.getD s.2 (Int.toNat s.1) default).Speed.X, (List.getD s.2 (Int.toNat s.1) default).Speed.Y, (List.getD s.2 (Int.toNat s.1) default).Speed.Z⟩, (List.getD s.2 (Int.toNat s.1) default).Mass⟩ : Body);
   let x6 := IntKind.wrap .i64 (s.1 + 1);
   .leaf (.inl (x6, x5), [0]))))))))
  (
   .leaf (.inr s.2, [0]))
def impl_StepBodies_loop0_L (p : Nat × Nat × Nat × Int) : LoopS (Int × List Body) (List Body) := { tl := fun s => [.junk, .flt .f32 p.1, .flt .f32 p.2.1, .junk, .junk, .junk, .junk, .junk, .flt .f32 p.2.2.1, .own 0, .junk, .junk, .junk, .junk, .junk, .junk, .junk, .junk, .junk, .junk, .junk, .junk, .junk, .junk, .junk, .junk, .junk, .int .i64 p.2.2.2, .int .i64 s.1], hl := fun s => [some (.typed 132 .body s.2)], ex := fun r => .exit 0, otl := fun r => [.junk, .flt .f32 p.1, .junk, .junk, .junk, .junk, .junk, .junk, .flt .f32 p.2.2.1, .own 0], ohl := fun r => [some (.typed 132 .body r)] }
def impl_StepBodies_loop0_ext : St → Option ((Nat × Nat × Nat × Int) × (Int × List Body) × List Nat) := fun S => match (S.tm 1).unK, (S.tm 2).unK, (S.tm 8).unK, (S.tm 9).unK, (S.tm 27).unK, (S.tm 28).unK with
  | .flt .f32 q0, .flt .f32 q1, .flt .f32 q2, .own i0, .int .i64 q3, .int .i64 q4 => (match S.hp i0 with
    | some (.typed 132 .body q5) => some ((q0, q1, q2, q3), (q4, q5), [i0])
    | _ => none)
  | _, _, _, _, _, _ => none
def impl_StepBodies_loop0_post (p : Nat × Nat × Nat × Int) (r : List Body) : DT (Ex × St) := .leaf (.exit 0, LSt [.junk, .flt .f32 p.1, .junk, .junk, .junk, .junk, .junk, .junk, .flt .f32 p.2.2.1, .own 0] [some (.typed 132 .body r)])
def impl_StepBodies_loop0 (p : Nat × Nat × Nat × Int) (s : Int × List Body) : List Body := loopVal (impl_StepBodies_loop0_step p) s
def impl_StepBodies_loop0_ends (p : Nat × Nat × Nat × Int) (s : Int × List Body) : Bool := loopEnds (impl_StepBodies_loop0_step p) s
def impl_StepBodies_loop0_F : LoopF := loopF impl_StepBodies_loop0_step impl_StepBodies_loop0_ext impl_StepBodies_loop0_post
theorem impl_StepBodies_loop0_hext : ∀ S p s fl, impl_StepBodies_loop0_ext S = some (p, s, fl) → Norm S fl ((impl_StepBodies_loop0_L p).tl s) ((impl_StepBodies_loop0_L p).hl s) (impl_StepBodies_loop0_L p).gl := by
  intro S p s fl h
  unfold impl_StepBodies_loop0_ext at h
  (repeat' split at h) <;> first
    | (cases h; constructor <;> simp_all [impl_StepBodies_loop0_L, keepT, keepH, rens, renH, PV.ren, Blk.ren, fOf, lget, nodup, natIn, lenEq, gtm, PV.unK])
    | cases h
theorem impl_StepBodies_loop0_hpost : ∀ p r e S', (impl_StepBodies_loop0_post p r).get = some (e, S') → e = (impl_StepBodies_loop0_L p).ex r ∧ S' = LSt ((impl_StepBodies_loop0_L p).otl r) ((impl_StepBodies_loop0_L p).ohl r) ((impl_StepBodies_loop0_L p).ogl r) := by
  intro p r e S' h
  unfold impl_StepBodies_loop0_post at h
  simp only [DT.get, Option.some.injEq, Prod.mk.injEq] at h; exact ⟨h.1.symm, h.2.symm⟩

def impl_StepBodies_loops : Nat → Option LoopF := loopTab [(8, impl_StepBodies_loop0_F)]
set_option maxRecDepth 100000 in
theorem impl_StepBodies_l0 : LoopOK Try.prog ⟨gam [(92, impl_IsFinite_c), (120, impl_pushed_c), (122, impl_ScaleVector_c), (121, impl_AddVectors_c), (109, impl_asBodies_c)], tab, 62, impl_StepBodies_loops⟩ (lp Try.f44 0) :=
  loopOK_some (F := impl_StepBodies_loop0_F) (by kernel_rfl) (loopF_ok (E := ⟨gam [(92, impl_IsFinite_c), (120, impl_pushed_c), (122, impl_ScaleVector_c), (121, impl_AddVectors_c), (109, impl_asBodies_c)], tab, 62, impl_StepBodies_loops⟩) ⟨gam_cons impl_IsFinite_ok (gam_cons impl_pushed_ok (gam_cons impl_ScaleVector_ok (gam_cons impl_AddVectors_ok (gam_cons impl_asBodies_ok (gam_nil))))), tab_ok, by kernel_rfl⟩ (fuel := 100000) (loopsOK_list (l := []) (by kernel_rfl) trivial) (L := impl_StepBodies_loop0_L) (fun p s => by unfold AgreeL; exact ⟨by kernel_rfl, by kernel_rfl⟩) (fun _ _ h => Ex.noConfusion h) impl_StepBodies_loop0_hext impl_StepBodies_loop0_hpost)
/-- loop.example/g01284/impl.StepBodies -/
def impl_StepBodies_tree (a0 : List Body) (a1 : Nat) (a2 : Nat) : DT ((Unit) ⊕ (List Body)) :=
  .need ((impl_IsFinite_need a2)) (
  let x0 := impl_IsFinite a2;
  .ask (!x0)
  (
   .leaf (.inl ()))
  (
   let x1 := fdiv .f32 a2 1073741824;
   .need ((impl_pushed_need a0 a1 x1)) (
   let x2 := impl_pushed a0 a1 x1;
   .ask ((isL x2))
   (
    .skip (
    .leaf (.inl ())))
   (
    let x3 := (!(rightD x2).2);
    .ask x3
    (
     .leaf (.inl ()))
    (
     let x4 := ((List.length (rightD x2).1 : Nat) : Int);
     .need ((impl_StepBodies_loop0_ends (a1, a2, x1, x4) (0, (rightD x2).1))) (
     let x5 := impl_StepBodies_loop0 (a1, a2, x1, x4) (0, (rightD x2).1);
     .need ((impl_pushed_need x5 a1 x1)) (
     let x6 := impl_pushed x5 a1 x1;
     .ask ((isL x6))
     (
      .skip (
      .leaf (.inl ())))
     (
      let x7 := (!(rightD x6).2);
      .ask x7
      (
       .leaf (.inl ()))
      (
       .need ((impl_asBodies_need ((rightD x6).1))) (
       let x8 := impl_asBodies ((rightD x6).1);
       .ask ((isL x8))
       (
        .leaf (.inl ()))
       (
        .leaf (.inr ((rightD x6).1)))))))))))))
def impl_StepBodies (a0 : List Body) (a1 : Nat) (a2 : Nat) : (Unit) ⊕ (List Body) := (impl_StepBodies_tree a0 a1 a2).val
def impl_StepBodies_need (a0 : List Body) (a1 : Nat) (a2 : Nat) : Bool := (impl_StepBodies_tree a0 a1 a2).ok
def impl_StepBodies_mk0 (p : Unit) : Ret := ⟨.tup [.nils, .bool false], []⟩
def impl_StepBodies_mk1 (p : List Body) : Ret := ⟨.tup [.own 0, .bool true], [.typed 132 .body p]⟩
def impl_StepBodies_mk : (Unit) ⊕ (List Body) → Ret := fun v => match v with
  | (.inl p) => impl_StepBodies_mk0 p
  | (.inr p) => impl_StepBodies_mk1 p
def impl_StepBodies_forms (v : (Unit) ⊕ (List Body)) : DT Ret := .ask (isL v) (.leaf (impl_StepBodies_mk0 (leftD v))) (.leaf (impl_StepBodies_mk1 (rightD v)))
theorem impl_StepBodies_forms_get : ∀ v, (impl_StepBodies_forms v).get = some (impl_StepBodies_mk v) := by
  intro v
  rcases v with v | v <;> rfl
def impl_StepBodies_c0 : Con := fun args => match args with
  | [.vslc 1 .body a0, .flt .f32 a1, .flt .f32 a2] => some (.need (impl_StepBodies_need a0 a1 a2) (impl_StepBodies_forms (impl_StepBodies a0 a1 a2)))
  | _ => none
set_option maxRecDepth 100000 in
theorem impl_StepBodies_ok0 : FunOK Try.prog 44 impl_StepBodies_c0.fn := by
  refine con_ok (Γ := gam [(92, impl_IsFinite_c), (120, impl_pushed_c), (122, impl_ScaleVector_c), (121, impl_AddVectors_c), (109, impl_asBodies_c)]) (gam_cons impl_IsFinite_ok (gam_cons impl_pushed_ok (gam_cons impl_ScaleVector_ok (gam_cons impl_AddVectors_ok (gam_cons impl_asBodies_ok (gam_nil)))))) tab_ok (by kernel_rfl) Try.func44 (by kernel_rfl) (by kernel_rfl) Try.ntmps44 Try.results44 (loops := impl_StepBodies_loops) (loopsOK_list (l := [lp Try.f44 0]) (by kernel_rfl) ⟨impl_StepBodies_l0, trivial⟩) 100000 fun args t h => ?_
  unfold impl_StepBodies_c0 at h
  split at h
  · rename_i a0 a1 a2
    cases h
    exact ⟨rfl, agree_forms (mk := impl_StepBodies_mk) (t := impl_StepBodies_tree a0 a1 a2) (by unfold Agree; kernel_rfl) (fun h => h) (impl_StepBodies_forms_get _)⟩
  · cases h
def impl_StepBodies_c : Con := fun args => impl_StepBodies_c0 (norms 0 [.slc .body, .none, .none] args)
set_option maxRecDepth 100000 in
theorem impl_StepBodies_ok : FunOK Try.prog 44 impl_StepBodies_c.fn := con_norm [.slc .body, .none, .none] impl_StepBodies_ok0

/-- loop.example/g01284/laws.FnExactStepBodies -/
def laws_FnExactStepBodies_tree (a0 : List Body) (a1 : Nat) (a2 : Nat) : DT (Bool) :=
  let x0 := laws_szBodyS a0 1048576;
  let x1 := decide (x0 < 0);
  .ask x1
  (
   .leaf true)
  (
   .need ((laws_toBodyS_need a0)) (
   let x2 := laws_toBodyS a0;
   .need ((spec_StepBodies_need x2 a1 a2)) (
   let x3 := spec_StepBodies x2 a1 a2;
   .ask ((isL x3))
   (
    .need ((laws_toBodyS_need a0)) (
    let x4 := laws_toBodyS a0;
    .need ((impl_StepBodies_need x4 a1 a2)) (
    let x5 := impl_StepBodies x4 a1 a2;
    .ask ((isL x5))
    (
     .need ((laws_eqBodyS_need [] [])) (
     let x6 := laws_eqBodyS [] [];
     .ask (!x6)
     (
      .leaf false)
     (
      .skip (
      .need ((laws_toBodyS_need a0)) (
      let x7 := laws_toBodyS a0;
      .need ((laws_eqBodyS_need x4 x7)) (
      let x8 := laws_eqBodyS x4 x7;
      .ask (!x8)
      (
       .leaf false)
      (
       .need ((laws_markBodyS_need x4 1)) (
       let x9 := laws_markBodyS x4 1;
       let x10 := decide (x9.1 < 0);
       .ask x10
       (
        .leaf false)
       (
        .need ((laws_eqBodyS_need [] [])) (
        let x11 := laws_eqBodyS [] [];
        .ask (!x11)
        (
         .leaf false)
        (
         .skip (
         .need ((laws_markBodyS_need [] 1)) (
         let x12 := laws_markBodyS [] 1;
         .need ((laws_heldBodyS_need [] 1)) (
         let x13 := laws_heldBodyS [] 1;
         let x14 := decide (x13 < 0);
         .ask x14
         (
          .leaf false)
         (
          let x15 := (x13 != x12.1);
          .ask x15
          (
           .leaf false)
          (
           .need ((laws_toBodyS_need a0)) (
           let x16 := laws_toBodyS a0;
           .need ((impl_StepBodies_need x16 a1 a2)) (
           let x17 := impl_StepBodies x16 a1 a2;
           .ask ((isL x17))
           (
            .need ((laws_eqBodyS_need [] [])) (
            let x18 := laws_eqBodyS [] [];
            .ask (!x18)
            (
             .leaf false)
            (
             .skip (
             .need ((laws_heldBodyS_need [] 1)) (
             let x19 := laws_heldBodyS [] 1;
             let x20 := decide (x19 < 0);
             .ask x20
             (
              .leaf false)
             (
              let x21 := (x19 != x12.1);
              .ask x21
              (
               .leaf false)
              (
               .leaf true)))))))
           (
            .need ((laws_eqBodyS_need ((rightD x17)) [])) (
            let x18 := laws_eqBodyS ((rightD x17)) [];
            .ask (!x18)
            (
             .leaf false)
            (
             .skip (
             .leaf false))))))))))))))))))))))
    (
     .need ((laws_eqBodyS_need ((rightD x5)) [])) (
     let x6 := laws_eqBodyS ((rightD x5)) [];
     .ask (!x6)
     (
      .leaf false)
     (
      .skip (
      .leaf false)))))))
   (
    .need ((laws_toBodyS_need a0)) (
    let x4 := laws_toBodyS a0;
    .need ((impl_StepBodies_need x4 a1 a2)) (
    let x5 := impl_StepBodies x4 a1 a2;
    .ask ((isL x5))
    (
     .need ((laws_eqBodyS_need [] ((rightD x3)))) (
     let x6 := laws_eqBodyS [] ((rightD x3));
     .ask (!x6)
     (
      .leaf false)
     (
      .skip (
      .leaf false))))
    (
     .need ((laws_eqBodyS_need ((rightD x5)) ((rightD x3)))) (
     let x6 := laws_eqBodyS ((rightD x5)) ((rightD x3));
     .ask (!x6)
     (
      .leaf false)
     (
      .skip (
      .need ((laws_toBodyS_need a0)) (
      let x7 := laws_toBodyS a0;
      .need ((laws_eqBodyS_need x4 x7)) (
      let x8 := laws_eqBodyS x4 x7;
      .ask (!x8)
      (
       .leaf false)
      (
       .need ((laws_markBodyS_need x4 1)) (
       let x9 := laws_markBodyS x4 1;
       let x10 := decide (x9.1 < 0);
       .ask x10
       (
        .leaf false)
       (
        .need ((laws_eqBodyS_need ((rightD x5)) ((rightD x3)))) (
        let x11 := laws_eqBodyS ((rightD x5)) ((rightD x3));
        .ask (!x11)
        (
         .leaf false)
        (
         .skip (
         .need ((laws_markBodyS_need ((rightD x5)) 1)) (
         let x12 := laws_markBodyS ((rightD x5)) 1;
         .need ((laws_heldBodyS_need x12.2 1)) (
         let x13 := laws_heldBodyS x12.2 1;
         let x14 := decide (x13 < 0);
         .ask x14
         (
          .leaf false)
         (
          let x15 := (x13 != x12.1);
          .ask x15
          (
           .leaf false)
          (
           .need ((laws_toBodyS_need a0)) (
           let x16 := laws_toBodyS a0;
           .need ((impl_StepBodies_need x16 a1 a2)) (
           let x17 := impl_StepBodies x16 a1 a2;
           .ask ((isL x17))
           (
            .need ((laws_eqBodyS_need [] ((rightD x3)))) (
            let x18 := laws_eqBodyS [] ((rightD x3));
            .ask (!x18)
            (
             .leaf false)
            (
             .skip (
             .leaf false))))
           (
            .need ((laws_eqBodyS_need ((rightD x17)) ((rightD x3)))) (
            let x18 := laws_eqBodyS ((rightD x17)) ((rightD x3));
            .ask (!x18)
            (
             .leaf false)
            (
             .skip (
             .need ((laws_heldBodyS_need x12.2 1)) (
             let x19 := laws_heldBodyS x12.2 1;
             let x20 := decide (x19 < 0);
             .ask x20
             (
              .leaf false)
             (
              let x21 := (x19 != x12.1);
              .ask x21
              (
               .leaf false)
              (
               .leaf true)))))))))))))))))))))))))))))))
def laws_FnExactStepBodies (a0 : List Body) (a1 : Nat) (a2 : Nat) : Bool := (laws_FnExactStepBodies_tree a0 a1 a2).val
def laws_FnExactStepBodies_need (a0 : List Body) (a1 : Nat) (a2 : Nat) : Bool := (laws_FnExactStepBodies_tree a0 a1 a2).ok
def laws_FnExactStepBodies_mk (p : Bool) : Ret := ⟨.bool p, []⟩
def laws_FnExactStepBodies_c0 : Con := fun args => match args with
  | [.vslc 1 .body a0, .flt .f32 a1, .flt .f32 a2] => some (.need (laws_FnExactStepBodies_need a0 a1 a2) (.leaf (laws_FnExactStepBodies_mk (laws_FnExactStepBodies a0 a1 a2))))
  | _ => none
set_option maxRecDepth 100000 in
theorem laws_FnExactStepBodies_ok0 : FunOK Try.prog 9 laws_FnExactStepBodies_c0.fn := by
  refine con_ok (Γ := gam [(41, laws_szBodyS_c), (43, laws_toBodyS_c), (42, spec_StepBodies_c), (44, impl_StepBodies_c), (31, laws_eqBodyS_c), (33, laws_heldBodyS_c)] [(32, laws_markBodyS_M)]) (gam_cons laws_szBodyS_ok (gam_cons laws_toBodyS_ok (gam_cons spec_StepBodies_ok (gam_cons impl_StepBodies_ok (gam_cons laws_eqBodyS_ok (gam_cons laws_heldBodyS_ok (gam_mut laws_markBodyS_ok (gam_nil)))))))) tab_ok (by kernel_rfl) Try.func9 (by kernel_rfl) (by kernel_rfl) Try.ntmps9 Try.results9 (loopsOK_none rfl _) 100000 fun args t h => ?_
  unfold laws_FnExactStepBodies_c0 at h
  split at h
  · rename_i a0 a1 a2
    cases h
    exact ⟨rfl, agree_need (mk := laws_FnExactStepBodies_mk) (t := laws_FnExactStepBodies_tree a0 a1 a2) (by unfold Agree; kernel_rfl)⟩
  · cases h
def laws_FnExactStepBodies_c : Con := fun args => laws_FnExactStepBodies_c0 (norms 0 [.slc .body, .none, .none] args)
set_option maxRecDepth 100000 in
theorem laws_FnExactStepBodies_ok : FunOK Try.prog 9 laws_FnExactStepBodies_c.fn := con_norm [.slc .body, .none, .none] laws_FnExactStepBodies_ok0

/-- loop.example/g01284/spec.FourthBodies -/
def spec_FourthBodies_tree (a0 : List Body) (a1 : Nat) (a2 : Nat) : DT ((Unit) ⊕ (List Body)) :=
  .need ((spec_l02Can_need a0 a1 a2)) (
  let x0 := spec_l02Can a0 a1 a2;
  .ask (!x0)
  (
   .leaf (.inl ()))
  (
   let x1 := fmul .f32 a2 1068299356;
   let x2 := fmul .f32 a2 3218729143;
   let x3 := fmul .f32 a2 1068299356;
   .skip (
   .skip (
   .need ((decide (0 < List.length [x1, x2, x3]))) (
   let x4 := List.getD [x1, x2, x3] 0 default;
   .need ((spec_l02Step_need a0 a1 x4)) (
   let x5 := spec_l02Step a0 a1 x4;
   .ask ((isL x5))
   (
    .skip (
    .skip (
    .skip (
    .skip (
    .skip (
    .skip (
    .skip (
    .leaf (.inl ())))))))))
   (
    .skip (
    .skip (
    .skip (
    .skip (
    .skip (
    .need ((decide (0 < List.length [x1, x2, x3]))) (
    let x6 := List.getD [x1, x2, x3] 0 default;
    .skip (
    let x7 := spec_l01Finite x6;
    .skip (
    .skip (
    .ask (!x7)
    (
     .leaf (.inl ()))
    (
     .skip (
     .skip (
     .need ((decide (1 < List.length [x1, x2, x3]))) (
     let x8 := List.getD [x1, x2, x3] 1 default;
     .need ((spec_l02Step_need ((rightD x5)) a1 x8)) (
     let x9 := spec_l02Step ((rightD x5)) a1 x8;
     .ask ((isL x9))
     (
      .skip (
      .skip (
      .skip (
      .skip (
      .skip (
      .skip (
      .skip (
      .leaf (.inl ())))))))))
     (
      .skip (
      .skip (
      .skip (
      .skip (
      .skip (
      .need ((decide (1 < List.length [x1, x2, x3]))) (
      let x10 := List.getD [x1, x2, x3] 1 default;
      .skip (
      let x11 := spec_l01Finite x10;
      .skip (
      .skip (
      .ask (!x11)
      (
       .leaf (.inl ()))
      (
       .skip (
       .skip (
       .need ((decide (2 < List.length [x1, x2, x3]))) (
       let x12 := List.getD [x1, x2, x3] 2 default;
       .need ((spec_l02Step_need ((rightD x9)) a1 x12)) (
       let x13 := spec_l02Step ((rightD x9)) a1 x12;
       .ask ((isL x13))
       (
        .skip (
        .skip (
        .skip (
        .skip (
        .skip (
        .skip (
        .skip (
        .leaf (.inl ())))))))))
       (
        .skip (
        .skip (
        .skip (
        .skip (
        .skip (
        .need ((decide (2 < List.length [x1, x2, x3]))) (
        let x14 := List.getD [x1, x2, x3] 2 default;
        .skip (
        let x15 := spec_l01Finite x14;
        .skip (
        .skip (
        .ask (!x15)
        (
         .leaf (.inl ()))
        (
         .skip (
         .leaf (.inr ((rightD x13)))))))))))))))))))))))))))))))))))))))))))))))))))
def spec_FourthBodies (a0 : List Body) (a1 : Nat) (a2 : Nat) : (Unit) ⊕ (List Body) := (spec_FourthBodies_tree a0 a1 a2).val
def spec_FourthBodies_need (a0 : List Body) (a1 : Nat) (a2 : Nat) : Bool := (spec_FourthBodies_tree a0 a1 a2).ok
def spec_FourthBodies_mk0 (p : Unit) : Ret := ⟨.tup [.nils, .bool false], []⟩
def spec_FourthBodies_mk1 (p : List Body) : Ret := ⟨.tup [.own 0, .bool true], [.typed 132 .body p]⟩
def spec_FourthBodies_mk : (Unit) ⊕ (List Body) → Ret := fun v => match v with
  | (.inl p) => spec_FourthBodies_mk0 p
  | (.inr p) => spec_FourthBodies_mk1 p
def spec_FourthBodies_forms (v : (Unit) ⊕ (List Body)) : DT Ret := .ask (isL v) (.leaf (spec_FourthBodies_mk0 (leftD v))) (.leaf (spec_FourthBodies_mk1 (rightD v)))
theorem spec_FourthBodies_forms_get : ∀ v, (spec_FourthBodies_forms v).get = some (spec_FourthBodies_mk v) := by
  intro v
  rcases v with v | v <;> rfl
def spec_FourthBodies_c0 : Con := fun args => match args with
  | [.vslc 1 .body a0, .flt .f32 a1, .flt .f32 a2] => some (.need (spec_FourthBodies_need a0 a1 a2) (spec_FourthBodies_forms (spec_FourthBodies a0 a1 a2)))
  | _ => none
set_option maxRecDepth 100000 in
theorem spec_FourthBodies_ok0 : FunOK Try.prog 45 spec_FourthBodies_c0.fn := by
  refine con_ok (Γ := gam [(117, spec_l02Can_c), (118, spec_l02Step_c), (88, spec_l01Finite_c)]) (gam_cons spec_l02Can_ok (gam_cons spec_l02Step_ok (gam_cons spec_l01Finite_ok (gam_nil)))) tab_ok (by kernel_rfl) Try.func45 (by kernel_rfl) (by kernel_rfl) Try.ntmps45 Try.results45 (loopsOK_none rfl _) 100000 fun args t h => ?_
  unfold spec_FourthBodies_c0 at h
  split at h
  · rename_i a0 a1 a2
    cases h
    exact ⟨rfl, agree_forms (mk := spec_FourthBodies_mk) (t := spec_FourthBodies_tree a0 a1 a2) (by unfold Agree; kernel_rfl) (fun h => h) (spec_FourthBodies_forms_get _)⟩
  · cases h
def spec_FourthBodies_c : Con := fun args => spec_FourthBodies_c0 (norms 0 [.slc .body, .none, .none] args)
set_option maxRecDepth 100000 in
theorem spec_FourthBodies_ok : FunOK Try.prog 45 spec_FourthBodies_c.fn := con_norm [.slc .body, .none, .none] spec_FourthBodies_ok0

/-- loop.example/g01284/impl.FourthBodies -/
def impl_FourthBodies_tree (a0 : List Body) (a1 : Nat) (a2 : Nat) : DT ((Unit) ⊕ (List Body)) :=
  .need ((impl_AreBodies_need a0)) (
  let x0 := impl_AreBodies a0;
  .ask (!x0)
  (
   .leaf (.inl ()))
  (
   .need ((impl_isCore_need a1)) (
   let x1 := impl_isCore a1;
   .ask (!x1)
   (
    .leaf (.inl ()))
   (
    .need ((impl_IsFinite_need a2)) (
    let x2 := impl_IsFinite a2;
    .ask (!x2)
    (
     .leaf (.inl ()))
    (
     .skip (
     .skip (
     .need ((decide (0 < List.length [1068299356, 3218729143, 1068299356]))) (
     let x3 := List.getD [1068299356, 3218729143, 1068299356] 0 default;
     let x4 := fmul .f32 a2 x3;
     .need ((impl_StepBodies_need a0 a1 x4)) (
     let x5 := impl_StepBodies a0 a1 x4;
     .ask ((isL x5))
     (
      .skip (
      .leaf (.inl ())))
     (
      .skip (
      .skip (
      .skip (
      .need ((decide (1 < List.length [1068299356, 3218729143, 1068299356]))) (
      let x6 := List.getD [1068299356, 3218729143, 1068299356] 1 default;
      let x7 := fmul .f32 a2 x6;
      .need ((impl_StepBodies_need ((rightD x5)) a1 x7)) (
      let x8 := impl_StepBodies ((rightD x5)) a1 x7;
      .ask ((isL x8))
      (
       .skip (
       .leaf (.inl ())))
      (
       .skip (
       .skip (
       .skip (
       .need ((decide (2 < List.length [1068299356, 3218729143, 1068299356]))) (
       let x9 := List.getD [1068299356, 3218729143, 1068299356] 2 default;
       let x10 := fmul .f32 a2 x9;
       .need ((impl_StepBodies_need ((rightD x8)) a1 x10)) (
       let x11 := impl_StepBodies ((rightD x8)) a1 x10;
       .ask ((isL x11))
       (
        .skip (
        .leaf (.inl ())))
       (
        .skip (
        .skip (
        .leaf (.inr ((rightD x11))))))))))))))))))))))))))))
def impl_FourthBodies (a0 : List Body) (a1 : Nat) (a2 : Nat) : (Unit) ⊕ (List Body) := (impl_FourthBodies_tree a0 a1 a2).val
def impl_FourthBodies_need (a0 : List Body) (a1 : Nat) (a2 : Nat) : Bool := (impl_FourthBodies_tree a0 a1 a2).ok
def impl_FourthBodies_mk0 (p : Unit) : Ret := ⟨.tup [.nils, .bool false], []⟩
def impl_FourthBodies_mk1 (p : List Body) : Ret := ⟨.tup [.own 0, .bool true], [.typed 132 .body p]⟩
def impl_FourthBodies_mk : (Unit) ⊕ (List Body) → Ret := fun v => match v with
  | (.inl p) => impl_FourthBodies_mk0 p
  | (.inr p) => impl_FourthBodies_mk1 p
def impl_FourthBodies_forms (v : (Unit) ⊕ (List Body)) : DT Ret := .ask (isL v) (.leaf (impl_FourthBodies_mk0 (leftD v))) (.leaf (impl_FourthBodies_mk1 (rightD v)))
theorem impl_FourthBodies_forms_get : ∀ v, (impl_FourthBodies_forms v).get = some (impl_FourthBodies_mk v) := by
  intro v
  rcases v with v | v <;> rfl
def impl_FourthBodies_c0 : Con := fun args => match args with
  | [.vslc 1 .body a0, .flt .f32 a1, .flt .f32 a2] => some (.need (impl_FourthBodies_need a0 a1 a2) (impl_FourthBodies_forms (impl_FourthBodies a0 a1 a2)))
  | _ => none
set_option maxRecDepth 100000 in
theorem impl_FourthBodies_ok0 : FunOK Try.prog 46 impl_FourthBodies_c0.fn := by
  refine con_ok (Γ := gam [(123, impl_AreBodies_c), (124, impl_isCore_c), (92, impl_IsFinite_c), (44, impl_StepBodies_c)]) (gam_cons impl_AreBodies_ok (gam_cons impl_isCore_ok (gam_cons impl_IsFinite_ok (gam_cons impl_StepBodies_ok (gam_nil))))) tab_ok (by kernel_rfl) Try.func46 (by kernel_rfl) (by kernel_rfl) Try.ntmps46 Try.results46 (loopsOK_none rfl _) 100000 fun args t h => ?_
  unfold impl_FourthBodies_c0 at h
  split at h
  · rename_i a0 a1 a2
    cases h
    exact ⟨rfl, agree_forms (mk := impl_FourthBodies_mk) (t := impl_FourthBodies_tree a0 a1 a2) (by unfold Agree; kernel_rfl) (fun h => h) (impl_FourthBodies_forms_get _)⟩
  · cases h
def impl_FourthBodies_c : Con := fun args => impl_FourthBodies_c0 (norms 0 [.slc .body, .none, .none] args)
set_option maxRecDepth 100000 in
theorem impl_FourthBodies_ok : FunOK Try.prog 46 impl_FourthBodies_c.fn := con_norm [.slc .body, .none, .none] impl_FourthBodies_ok0

/-- loop.example/g01284/laws.FnExactFourthBodies -/
def laws_FnExactFourthBodies_tree (a0 : List Body) (a1 : Nat) (a2 : Nat) : DT (Bool) :=
  let x0 := laws_szBodyS a0 1048576;
  let x1 := decide (x0 < 0);
  .ask x1
  (
   .leaf true)
  (
   .need ((laws_toBodyS_need a0)) (
   let x2 := laws_toBodyS a0;
   .need ((spec_FourthBodies_need x2 a1 a2)) (
   let x3 := spec_FourthBodies x2 a1 a2;
   .ask ((isL x3))
   (
    .need ((laws_toBodyS_need a0)) (
    let x4 := laws_toBodyS a0;
    .need ((impl_FourthBodies_need x4 a1 a2)) (
    let x5 := impl_FourthBodies x4 a1 a2;
    .ask ((isL x5))
    (
     .need ((laws_eqBodyS_need [] [])) (
     let x6 := laws_eqBodyS [] [];
     .ask (!x6)
     (
      .leaf false)
     (
      .skip (
      .need ((laws_toBodyS_need a0)) (
      let x7 := laws_toBodyS a0;
      .need ((laws_eqBodyS_need x4 x7)) (
      let x8 := laws_eqBodyS x4 x7;
      .ask (!x8)
      (
       .leaf false)
      (
       .need ((laws_markBodyS_need x4 1)) (
       let x9 := laws_markBodyS x4 1;
       let x10 := decide (x9.1 < 0);
       .ask x10
       (
        .leaf false)
       (
        .need ((laws_eqBodyS_need [] [])) (
        let x11 := laws_eqBodyS [] [];
        .ask (!x11)
        (
         .leaf false)
        (
         .skip (
         .need ((laws_markBodyS_need [] 1)) (
         let x12 := laws_markBodyS [] 1;
         .need ((laws_heldBodyS_need [] 1)) (
         let x13 := laws_heldBodyS [] 1;
         let x14 := decide (x13 < 0);
         .ask x14
         (
          .leaf false)
         (
          let x15 := (x13 != x12.1);
          .ask x15
          (
           .leaf false)
          (
           .need ((laws_toBodyS_need a0)) (
           let x16 := laws_toBodyS a0;
           .need ((impl_FourthBodies_need x16 a1 a2)) (
           let x17 := impl_FourthBodies x16 a1 a2;
           .ask ((isL x17))
           (
            .need ((laws_eqBodyS_need [] [])) (
            let x18 := laws_eqBodyS [] [];
            .ask (!x18)
            (
             .leaf false)
            (
             .skip (
             .need ((laws_heldBodyS_need [] 1)) (
             let x19 := laws_heldBodyS [] 1;
             let x20 := decide (x19 < 0);
             .ask x20
             (
              .leaf false)
             (
              let x21 := (x19 != x12.1);
              .ask x21
              (
               .leaf false)
              (
               .leaf true)))))))
           (
            .need ((laws_eqBodyS_need ((rightD x17)) [])) (
            let x18 := laws_eqBodyS ((rightD x17)) [];
            .ask (!x18)
            (
             .leaf false)
            (
             .skip (
             .leaf false))))))))))))))))))))))
    (
     .need ((laws_eqBodyS_need ((rightD x5)) [])) (
     let x6 := laws_eqBodyS ((rightD x5)) [];
     .ask (!x6)
     (
      .leaf false)
     (
      .skip (
      .leaf false)))))))
   (
    .need ((laws_toBodyS_need a0)) (
    let x4 := laws_toBodyS a0;
    .need ((impl_FourthBodies_need x4 a1 a2)) (
    let x5 := impl_FourthBodies x4 a1 a2;
    .ask ((isL x5))
    (
     .need ((laws_eqBodyS_need [] ((rightD x3)))) (
     let x6 := laws_eqBodyS [] ((rightD x3));
     .ask (!x6)
     (
      .leaf false)
     (
      .skip (
      .leaf false))))
    (
     .need ((laws_eqBodyS_need ((rightD x5)) ((rightD x3)))) (
     let x6 := laws_eqBodyS ((rightD x5)) ((rightD x3));
     .ask (!x6)
     (
      .leaf false)
     (
      .skip (
      .need ((laws_toBodyS_need a0)) (
      let x7 := laws_toBodyS a0;
      .need ((laws_eqBodyS_need x4 x7)) (
      let x8 := laws_eqBodyS x4 x7;
      .ask (!x8)
      (
       .leaf false)
      (
       .need ((laws_markBodyS_need x4 1)) (
       let x9 := laws_markBodyS x4 1;
       let x10 := decide (x9.1 < 0);
       .ask x10
       (
        .leaf false)
       (
        .need ((laws_eqBodyS_need ((rightD x5)) ((rightD x3)))) (
        let x11 := laws_eqBodyS ((rightD x5)) ((rightD x3));
        .ask (!x11)
        (
         .leaf false)
        (
         .skip (
         .need ((laws_markBodyS_need ((rightD x5)) 1)) (
         let x12 := laws_markBodyS ((rightD x5)) 1;
         .need ((laws_heldBodyS_need x12.2 1)) (
         let x13 := laws_heldBodyS x12.2 1;
         let x14 := decide (x13 < 0);
         .ask x14
         (
          .leaf false)
         (
          let x15 := (x13 != x12.1);
          .ask x15
          (
           .leaf false)
          (
           .need ((laws_toBodyS_need a0)) (
           let x16 := laws_toBodyS a0;
           .need ((impl_FourthBodies_need x16 a1 a2)) (
           let x17 := impl_FourthBodies x16 a1 a2;
           .ask ((isL x17))
           (
            .need ((laws_eqBodyS_need [] ((rightD x3)))) (
            let x18 := laws_eqBodyS [] ((rightD x3));
            .ask (!x18)
            (
             .leaf false)
            (
             .skip (
             .leaf false))))
           (
            .need ((laws_eqBodyS_need ((rightD x17)) ((rightD x3)))) (
            let x18 := laws_eqBodyS ((rightD x17)) ((rightD x3));
            .ask (!x18)
            (
             .leaf false)
            (
             .skip (
             .need ((laws_heldBodyS_need x12.2 1)) (
             let x19 := laws_heldBodyS x12.2 1;
             let x20 := decide (x19 < 0);
             .ask x20
             (
              .leaf false)
             (
              let x21 := (x19 != x12.1);
              .ask x21
              (
               .leaf false)
              (
               .leaf true)))))))))))))))))))))))))))))))
def laws_FnExactFourthBodies (a0 : List Body) (a1 : Nat) (a2 : Nat) : Bool := (laws_FnExactFourthBodies_tree a0 a1 a2).val
def laws_FnExactFourthBodies_need (a0 : List Body) (a1 : Nat) (a2 : Nat) : Bool := (laws_FnExactFourthBodies_tree a0 a1 a2).ok
def laws_FnExactFourthBodies_mk (p : Bool) : Ret := ⟨.bool p, []⟩
def laws_FnExactFourthBodies_c0 : Con := fun args => match args with
  | [.vslc 1 .body a0, .flt .f32 a1, .flt .f32 a2] => some (.need (laws_FnExactFourthBodies_need a0 a1 a2) (.leaf (laws_FnExactFourthBodies_mk (laws_FnExactFourthBodies a0 a1 a2))))
  | _ => none
set_option maxRecDepth 100000 in
theorem laws_FnExactFourthBodies_ok0 : FunOK Try.prog 10 laws_FnExactFourthBodies_c0.fn := by
  refine con_ok (Γ := gam [(41, laws_szBodyS_c), (43, laws_toBodyS_c), (45, spec_FourthBodies_c), (46, impl_FourthBodies_c), (31, laws_eqBodyS_c), (33, laws_heldBodyS_c)] [(32, laws_markBodyS_M)]) (gam_cons laws_szBodyS_ok (gam_cons laws_toBodyS_ok (gam_cons spec_FourthBodies_ok (gam_cons impl_FourthBodies_ok (gam_cons laws_eqBodyS_ok (gam_cons laws_heldBodyS_ok (gam_mut laws_markBodyS_ok (gam_nil)))))))) tab_ok (by kernel_rfl) Try.func10 (by kernel_rfl) (by kernel_rfl) Try.ntmps10 Try.results10 (loopsOK_none rfl _) 100000 fun args t h => ?_
  unfold laws_FnExactFourthBodies_c0 at h
  split at h
  · rename_i a0 a1 a2
    cases h
    exact ⟨rfl, agree_need (mk := laws_FnExactFourthBodies_mk) (t := laws_FnExactFourthBodies_tree a0 a1 a2) (by unfold Agree; kernel_rfl)⟩
  · cases h
def laws_FnExactFourthBodies_c : Con := fun args => laws_FnExactFourthBodies_c0 (norms 0 [.slc .body, .none, .none] args)
set_option maxRecDepth 100000 in
theorem laws_FnExactFourthBodies_ok : FunOK Try.prog 10 laws_FnExactFourthBodies_c.fn := con_norm [.slc .body, .none, .none] laws_FnExactFourthBodies_ok0

/-- loop.example/g01284/spec.l02Steps -/
def spec_l02Steps_tree (a0 : Int) : DT (Bool) :=
  let x0 := spec_l00In a0 0 64;
  .leaf x0
def spec_l02Steps (a0 : Int) : Bool := (spec_l02Steps_tree a0).val
def spec_l02Steps_mk (p : Bool) : Ret := ⟨.bool p, []⟩
def spec_l02Steps_c : Con := fun args => match args with
  | [.int .i64 a0] => some (.leaf (spec_l02Steps_mk (spec_l02Steps a0)))
  | _ => none
set_option maxRecDepth 100000 in
theorem spec_l02Steps_ok : FunOK Try.prog 125 spec_l02Steps_c.fn := by
  refine con_ok (Γ := gam [(99, spec_l00In_c)]) (gam_cons spec_l00In_ok (gam_nil)) tab_ok (by kernel_rfl) Try.func125 (by kernel_rfl) (by kernel_rfl) Try.ntmps125 Try.results125 (loopsOK_none rfl _) 100000 fun args t h => ?_
  unfold spec_l02Steps_c at h
  split at h
  · rename_i a0
    cases h
    exact ⟨rfl, agree_tot (mk := spec_l02Steps_mk) (t := spec_l02Steps_tree a0) (by unfold Agree; kernel_rfl) (by kernel_rfl)⟩
  · cases h

/-- a loop of spec_l02Run -/
def spec_l02Run_loop0_step (p : Nat × Nat × Int) (s : Int × List Body) : Round (Int × List Body) ((Unit) ⊕ (List Body)) :=
  let x0 := decide (s.1 < p.2.2);
  .ask x0
  (
   .need ((spec_l02Step_need s.2 p.1 p.2.1)) (
   let x1 := spec_l02Step s.2 p.1 p.2.1;
   .ask ((isL x1))
   (
    .skip (
    .leaf (.inr (.inl ()), [])))
   (
    .skip (
    let x2 := IntKind.wrap .i64 (s.1 + 1);
    .leaf (.inl (x2, (rightD x1)), [49])))))
  (
   .leaf (.inr (.inr s.2), [0]))
def spec_l02Run_loop0_L (p : Nat × Nat × Int) : LoopS (Int × List Body) ((Unit) ⊕ (List Body)) := { tl := fun s => [.junk, .flt .f32 p.1, .flt .f32 p.2.1, .int .i64 p.2.2, .junk, .junk, .junk, .junk, .junk, .junk, .own 0, .int .i64 s.1], hl := fun s => [some (.typed 132 .body s.2)], ex := fun r => match r with | .inl r => .ret | .inr r => .exit 0, otl := fun r => match r with | .inl r => [.junk, .junk, .junk, .junk, .junk, .junk, .junk, .junk, .nils, .bool false] | .inr r => [.junk, .junk, .junk, .junk, .junk, .junk, .junk, .junk, .junk, .junk, .own 0], ohl := fun r => match r with | .inl r => [] | .inr r => [some (.typed 132 .body r)] }
def spec_l02Run_loop0_ext : St → Option ((Nat × Nat × Int) × (Int × List Body) × List Nat) := fun S => match (S.tm 1).unK, (S.tm 2).unK, (S.tm 3).unK, (S.tm 10).unK, (S.tm 11).unK with
  | .flt .f32 q0, .flt .f32 q1, .int .i64 q2, .own i0, .int .i64 q3 => (match S.hp i0 with
    | some (.typed 132 .body q4) => some ((q0, q1, q2), (q3, q4), [i0])
    | _ => none)
  | _, _, _, _, _ => none
def spec_l02Run_loop0_post (p : Nat × Nat × Int) (r : (Unit) ⊕ (List Body)) : DT (Ex × St) := .ask (isL r) (.leaf (.ret, LSt [.junk, .junk, .junk, .junk, .junk, .junk, .junk, .junk, .nils, .bool false] [])) (.leaf (.exit 0, LSt [.junk, .junk, .junk, .junk, .junk, .junk, .junk, .junk, .junk, .junk, .own 0] [some (.typed 132 .body ((rightD r)))]))
def spec_l02Run_loop0 (p : Nat × Nat × Int) (s : Int × List Body) : (Unit) ⊕ (List Body) := loopVal (spec_l02Run_loop0_step p) s
def spec_l02Run_loop0_ends (p : Nat × Nat × Int) (s : Int × List Body) : Bool := loopEnds (spec_l02Run_loop0_step p) s
def spec_l02Run_loop0_F : LoopF := loopF spec_l02Run_loop0_step spec_l02Run_loop0_ext spec_l02Run_loop0_post
theorem spec_l02Run_loop0_hext : ∀ S p s fl, spec_l02Run_loop0_ext S = some (p, s, fl) → Norm S fl ((spec_l02Run_loop0_L p).tl s) ((spec_l02Run_loop0_L p).hl s) (spec_l02Run_loop0_L p).gl := by
  intro S p s fl h
  unfold spec_l02Run_loop0_ext at h
  (repeat' split at h) <;> first
    | (cases h; constructor <;> simp_all [spec_l02Run_loop0_L, keepT, keepH, rens, renH, PV.ren, Blk.ren, fOf, lget, nodup, natIn, lenEq, gtm, PV.unK])
    | cases h
theorem spec_l02Run_loop0_hpost : ∀ p r e S', (spec_l02Run_loop0_post p r).get = some (e, S') → e = (spec_l02Run_loop0_L p).ex r ∧ S' = LSt ((spec_l02Run_loop0_L p).otl r) ((spec_l02Run_loop0_L p).ohl r) ((spec_l02Run_loop0_L p).ogl r) := by
  intro p r e S' h
  unfold spec_l02Run_loop0_post at h
  cases r <;> (simp only [isL, DT.get, Option.some.injEq, Prod.mk.injEq] at h; exact ⟨h.1.symm, h.2.symm⟩)

def spec_l02Run_loops : Nat → Option LoopF := loopTab [(3, spec_l02Run_loop0_F)]
set_option maxRecDepth 100000 in
theorem spec_l02Run_l0 : LoopOK Try.prog ⟨gam [(127, spec_l02Own_c), (118, spec_l02Step_c)], tab, 32, spec_l02Run_loops⟩ (lp Try.f126 0) :=
  loopOK_some (F := spec_l02Run_loop0_F) (by kernel_rfl) (loopF_ok (E := ⟨gam [(127, spec_l02Own_c), (118, spec_l02Step_c)], tab, 32, spec_l02Run_loops⟩) ⟨gam_cons spec_l02Own_ok (gam_cons spec_l02Step_ok (gam_nil)), tab_ok, by kernel_rfl⟩ (fuel := 100000) (loopsOK_list (l := []) (by kernel_rfl) trivial) (L := spec_l02Run_loop0_L) (fun p s => by unfold AgreeL; exact ⟨by kernel_rfl, by kernel_rfl⟩) (fun _ r h => by cases r <;> exact Ex.noConfusion h) spec_l02Run_loop0_hext spec_l02Run_loop0_hpost)
/-- loop.example/g01284/spec.l02Run -/
def spec_l02Run_tree (a0 : List Body) (a1 : Nat) (a2 : Nat) (a3 : Int) : DT ((Unit) ⊕ (List Body)) :=
  .need ((spec_l02Own_need a0)) (
  let x0 := spec_l02Own a0;
  .need ((spec_l02Run_loop0_ends (a1, a2, a3) (0, x0))) (
  let x1 := spec_l02Run_loop0 (a1, a2, a3) (0, x0);
  .ask ((isL x1))
  (
   .leaf (.inl ()))
  (
   .leaf (.inr ((rightD x1))))))
def spec_l02Run (a0 : List Body) (a1 : Nat) (a2 : Nat) (a3 : Int) : (Unit) ⊕ (List Body) := (spec_l02Run_tree a0 a1 a2 a3).val
def spec_l02Run_need (a0 : List Body) (a1 : Nat) (a2 : Nat) (a3 : Int) : Bool := (spec_l02Run_tree a0 a1 a2 a3).ok
def spec_l02Run_mk0 (p : Unit) : Ret := ⟨.tup [.nils, .bool false], []⟩
def spec_l02Run_mk1 (p : List Body) : Ret := ⟨.tup [.own 0, .bool true], [.typed 132 .body p]⟩
def spec_l02Run_mk : (Unit) ⊕ (List Body) → Ret := fun v => match v with
  | (.inl p) => spec_l02Run_mk0 p
  | (.inr p) => spec_l02Run_mk1 p
def spec_l02Run_forms (v : (Unit) ⊕ (List Body)) : DT Ret := .ask (isL v) (.leaf (spec_l02Run_mk0 (leftD v))) (.leaf (spec_l02Run_mk1 (rightD v)))
theorem spec_l02Run_forms_get : ∀ v, (spec_l02Run_forms v).get = some (spec_l02Run_mk v) := by
  intro v
  rcases v with v | v <;> rfl
def spec_l02Run_c0 : Con := fun args => match args with
  | [.vslc 1 .body a0, .flt .f32 a1, .flt .f32 a2, .int .i64 a3] => some (.need (spec_l02Run_need a0 a1 a2 a3) (spec_l02Run_forms (spec_l02Run a0 a1 a2 a3)))
  | _ => none
set_option maxRecDepth 100000 in
theorem spec_l02Run_ok0 : FunOK Try.prog 126 spec_l02Run_c0.fn := by
  refine con_ok (Γ := gam [(127, spec_l02Own_c), (118, spec_l02Step_c)]) (gam_cons spec_l02Own_ok (gam_cons spec_l02Step_ok (gam_nil))) tab_ok (by kernel_rfl) Try.func126 (by kernel_rfl) (by kernel_rfl) Try.ntmps126 Try.results126 (loops := spec_l02Run_loops) (loopsOK_list (l := [lp Try.f126 0]) (by kernel_rfl) ⟨spec_l02Run_l0, trivial⟩) 100000 fun args t h => ?_
  unfold spec_l02Run_c0 at h
  split at h
  · rename_i a0 a1 a2 a3
    cases h
    exact ⟨rfl, agree_forms (mk := spec_l02Run_mk) (t := spec_l02Run_tree a0 a1 a2 a3) (by unfold Agree; kernel_rfl) (fun h => h) (spec_l02Run_forms_get _)⟩
  · cases h
def spec_l02Run_c : Con := fun args => spec_l02Run_c0 (norms 0 [.slc .body, .none, .none, .none] args)
set_option maxRecDepth 100000 in
theorem spec_l02Run_ok : FunOK Try.prog 126 spec_l02Run_c.fn := con_norm [.slc .body, .none, .none, .none] spec_l02Run_ok0

/-- loop.example/g01284/spec.RunBodies -/
def spec_RunBodies_tree (a0 : List Body) (a1 : Nat) (a2 : Nat) (a3 : Int) : DT ((Unit) ⊕ (List Body)) :=
  .need ((spec_l02Can_need a0 a1 a2)) (
  let x0 := spec_l02Can a0 a1 a2;
  .ask (!x0)
  (
   .leaf (.inl ()))
  (
   let x1 := spec_l02Steps a3;
   .ask (!x1)
   (
    .leaf (.inl ()))
   (
    .need ((spec_l02Run_need a0 a1 a2 a3)) (
    let x2 := spec_l02Run a0 a1 a2 a3;
    .ask ((isL x2))
    (
     .leaf (.inl ()))
    (
     .leaf (.inr ((rightD x2))))))))
def spec_RunBodies (a0 : List Body) (a1 : Nat) (a2 : Nat) (a3 : Int) : (Unit) ⊕ (List Body) := (spec_RunBodies_tree a0 a1 a2 a3).val
def spec_RunBodies_need (a0 : List Body) (a1 : Nat) (a2 : Nat) (a3 : Int) : Bool := (spec_RunBodies_tree a0 a1 a2 a3).ok
def spec_RunBodies_mk0 (p : Unit) : Ret := ⟨.tup [.nils, .bool false], []⟩
def spec_RunBodies_mk1 (p : List Body) : Ret := ⟨.tup [.own 0, .bool true], [.typed 132 .body p]⟩
def spec_RunBodies_mk : (Unit) ⊕ (List Body) → Ret := fun v => match v with
  | (.inl p) => spec_RunBodies_mk0 p
  | (.inr p) => spec_RunBodies_mk1 p
def spec_RunBodies_forms (v : (Unit) ⊕ (List Body)) : DT Ret := .ask (isL v) (.leaf (spec_RunBodies_mk0 (leftD v))) (.leaf (spec_RunBodies_mk1 (rightD v)))
theorem spec_RunBodies_forms_get : ∀ v, (spec_RunBodies_forms v).get = some (spec_RunBodies_mk v) := by
  intro v
  rcases v with v | v <;> rfl
def spec_RunBodies_c0 : Con := fun args => match args with
  | [.vslc 1 .body a0, .flt .f32 a1, .flt .f32 a2, .int .i64 a3] => some (.need (spec_RunBodies_need a0 a1 a2 a3) (spec_RunBodies_forms (spec_RunBodies a0 a1 a2 a3)))
  | _ => none
set_option maxRecDepth 100000 in
theorem spec_RunBodies_ok0 : FunOK Try.prog 47 spec_RunBodies_c0.fn := by
  refine con_ok (Γ := gam [(117, spec_l02Can_c), (125, spec_l02Steps_c), (126, spec_l02Run_c)]) (gam_cons spec_l02Can_ok (gam_cons spec_l02Steps_ok (gam_cons spec_l02Run_ok (gam_nil)))) tab_ok (by kernel_rfl) Try.func47 (by kernel_rfl) (by kernel_rfl) Try.ntmps47 Try.results47 (loopsOK_none rfl _) 100000 fun args t h => ?_
  unfold spec_RunBodies_c0 at h
  split at h
  · rename_i a0 a1 a2 a3
    cases h
    exact ⟨rfl, agree_forms (mk := spec_RunBodies_mk) (t := spec_RunBodies_tree a0 a1 a2 a3) (by unfold Agree; kernel_rfl) (fun h => h) (spec_RunBodies_forms_get _)⟩
  · cases h
def spec_RunBodies_c : Con := fun args => spec_RunBodies_c0 (norms 0 [.slc .body, .none, .none, .none] args)
set_option maxRecDepth 100000 in
theorem spec_RunBodies_ok : FunOK Try.prog 47 spec_RunBodies_c.fn := con_norm [.slc .body, .none, .none, .none] spec_RunBodies_ok0

/-- a loop of impl_RunBodies -/
def impl_RunBodies_loop0_step (p : Nat × Nat × Int) (s : Int × List Body) : Round (Int × List Body) ((Unit) ⊕ (List Body)) :=
  let x0 := decide (s.1 < p.2.2);
  .ask x0
  (
   .need ((impl_StepBodies_need s.2 p.1 p.2.1)) (
   let x1 := impl_StepBodies s.2 p.1 p.2.1;
   .ask ((isL x1))
   (
    .skip (
    .leaf (.inr (.inl ()), [])))
   (
    .skip (
    let x2 := IntKind.wrap .i64 (s.1 + 1);
    .leaf (.inl (x2, (rightD x1)), [33])))))
  (
   .leaf (.inr (.inr s.2), [0]))
def impl_RunBodies_loop0_L (p : Nat × Nat × Int) : LoopS (Int × List Body) ((Unit) ⊕ (List Body)) := { tl := fun s => [.junk, .flt .f32 p.1, .flt .f32 p.2.1, .junk, .junk, .junk, .junk, .junk, .junk, .junk, .own 0, .junk, .junk, .junk, .junk, .junk, .junk, .junk, .junk, .junk, .junk, .junk, .junk, .junk, .junk, .junk, .junk, .junk, .junk, .junk, .junk, .junk, .junk, .junk, .int .i64 p.2.2, .int .i64 s.1], hl := fun s => [some (.typed 132 .body s.2)], ex := fun r => match r with | .inl r => .ret | .inr r => .exit 0, otl := fun r => match r with | .inl r => [.junk, .junk, .junk, .junk, .junk, .junk, .junk, .junk, .nils, .bool false] | .inr r => [.junk, .junk, .junk, .junk, .junk, .junk, .junk, .junk, .junk, .junk, .own 0], ohl := fun r => match r with | .inl r => [] | .inr r => [some (.typed 132 .body r)] }
def impl_RunBodies_loop0_ext : St → Option ((Nat × Nat × Int) × (Int × List Body) × List Nat) := fun S => match (S.tm 1).unK, (S.tm 2).unK, (S.tm 10).unK, (S.tm 34).unK, (S.tm 35).unK with
  | .flt .f32 q0, .flt .f32 q1, .own i0, .int .i64 q2, .int .i64 q3 => (match S.hp i0 with
    | some (.typed 132 .body q4) => some ((q0, q1, q2), (q3, q4), [i0])
    | _ => none)
  | _, _, _, _, _ => none
def impl_RunBodies_loop0_post (p : Nat × Nat × Int) (r : (Unit) ⊕ (List Body)) : DT (Ex × St) := .ask (isL r) (.leaf (.ret, LSt [.junk, .junk, .junk, .junk, .junk, .junk, .junk, .junk, .nils, .bool false] [])) (.leaf (.exit 0, LSt [.junk, .junk, .junk, .junk, .junk, .junk, .junk, .junk, .junk, .junk, .own 0] [some (.typed 132 .body ((rightD r)))]))
def impl_RunBodies_loop0 (p : Nat × Nat × Int) (s : Int × List Body) : (Unit) ⊕ (List Body) := loopVal (impl_RunBodies_loop0_step p) s
def impl_RunBodies_loop0_ends (p : Nat × Nat × Int) (s : Int × List Body) : Bool := loopEnds (impl_RunBodies_loop0_step p) s
def impl_RunBodies_loop0_F : LoopF := loopF impl_RunBodies_loop0_step impl_RunBodies_loop0_ext impl_RunBodies_loop0_post
theorem impl_RunBodies_loop0_hext : ∀ S p s fl, impl_RunBodies_loop0_ext S = some (p, s, fl) → Norm S fl ((impl_RunBodies_loop0_L p).tl s) ((impl_RunBodies_loop0_L p).hl s) (impl_RunBodies_loop0_L p).gl := by
  intro S p s fl h
  unfold impl_RunBodies_loop0_ext at h
  (repeat' split at h) <;> first
    | (cases h; constructor <;> simp_all [impl_RunBodies_loop0_L, keepT, keepH, rens, renH, PV.ren, Blk.ren, fOf, lget, nodup, natIn, lenEq, gtm, PV.unK])
    | cases h
theorem impl_RunBodies_loop0_hpost : ∀ p r e S', (impl_RunBodies_loop0_post p r).get = some (e, S') → e = (impl_RunBodies_loop0_L p).ex r ∧ S' = LSt ((impl_RunBodies_loop0_L p).otl r) ((impl_RunBodies_loop0_L p).ohl r) ((impl_RunBodies_loop0_L p).ogl r) := by
  intro p r e S' h
  unfold impl_RunBodies_loop0_post at h
  cases r <;> (simp only [isL, DT.get, Option.some.injEq, Prod.mk.injEq] at h; exact ⟨h.1.symm, h.2.symm⟩)

def impl_RunBodies_loops : Nat → Option LoopF := loopTab [(5, impl_RunBodies_loop0_F)]
set_option maxRecDepth 100000 in
theorem impl_RunBodies_l0 : LoopOK Try.prog ⟨gam [(123, impl_AreBodies_c), (124, impl_isCore_c), (92, impl_IsFinite_c), (105, impl_within_c), (44, impl_StepBodies_c)], tab, 49, impl_RunBodies_loops⟩ (lp Try.f48 0) :=
  loopOK_some (F := impl_RunBodies_loop0_F) (by kernel_rfl) (loopF_ok (E := ⟨gam [(123, impl_AreBodies_c), (124, impl_isCore_c), (92, impl_IsFinite_c), (105, impl_within_c), (44, impl_StepBodies_c)], tab, 49, impl_RunBodies_loops⟩) ⟨gam_cons impl_AreBodies_ok (gam_cons impl_isCore_ok (gam_cons impl_IsFinite_ok (gam_cons impl_within_ok (gam_cons impl_StepBodies_ok (gam_nil))))), tab_ok, by kernel_rfl⟩ (fuel := 100000) (loopsOK_list (l := []) (by kernel_rfl) trivial) (L := impl_RunBodies_loop0_L) (fun p s => by unfold AgreeL; exact ⟨by kernel_rfl, by kernel_rfl⟩) (fun _ r h => by cases r <;> exact Ex.noConfusion h) impl_RunBodies_loop0_hext impl_RunBodies_loop0_hpost)
/-- loop.example/g01284/impl.RunBodies -/
def impl_RunBodies_tree (a0 : List Body) (a1 : Nat) (a2 : Nat) (a3 : Int) : DT ((Unit) ⊕ (List Body)) :=
  .need ((impl_AreBodies_need a0)) (
  let x0 := impl_AreBodies a0;
  .ask (!x0)
  (
   .leaf (.inl ()))
  (
   .need ((impl_isCore_need a1)) (
   let x1 := impl_isCore a1;
   .ask (!x1)
   (
    .leaf (.inl ()))
   (
    .need ((impl_IsFinite_need a2)) (
    let x2 := impl_IsFinite a2;
    .ask (!x2)
    (
     .leaf (.inl ()))
    (
     let x3 := impl_within a3 0 64;
     .ask (!x3)
     (
      .leaf (.inl ()))
     (
      .need ((decide ((List.length ([] : List Body) + List.length a0) * 28 ≤ 140737488355328) && decide (List.length ([] : List Body) + List.length a0 ≤ 9223372036854775807))) (
      let x4 := ([] : List Body) ++ a0;
      .need ((impl_RunBodies_loop0_ends (a1, a2, a3) (0, x4))) (
      let x5 := impl_RunBodies_loop0 (a1, a2, a3) (0, x4);
      .ask ((isL x5))
      (
       .leaf (.inl ()))
      (
       .leaf (.inr ((rightD x5)))))))))))))
def impl_RunBodies (a0 : List Body) (a1 : Nat) (a2 : Nat) (a3 : Int) : (Unit) ⊕ (List Body) := (impl_RunBodies_tree a0 a1 a2 a3).val
def impl_RunBodies_need (a0 : List Body) (a1 : Nat) (a2 : Nat) (a3 : Int) : Bool := (impl_RunBodies_tree a0 a1 a2 a3).ok
def impl_RunBodies_mk0 (p : Unit) : Ret := ⟨.tup [.nils, .bool false], []⟩
def impl_RunBodies_mk1 (p : List Body) : Ret := ⟨.tup [.own 0, .bool true], [.typed 132 .body p]⟩
def impl_RunBodies_mk : (Unit) ⊕ (List Body) → Ret := fun v => match v with
  | (.inl p) => impl_RunBodies_mk0 p
  | (.inr p) => impl_RunBodies_mk1 p
def impl_RunBodies_forms (v : (Unit) ⊕ (List Body)) : DT Ret := .ask (isL v) (.leaf (impl_RunBodies_mk0 (leftD v))) (.leaf (impl_RunBodies_mk1 (rightD v)))
theorem impl_RunBodies_forms_get : ∀ v, (impl_RunBodies_forms v).get = some (impl_RunBodies_mk v) := by
  intro v
  rcases v with v | v <;> rfl
def impl_RunBodies_c0 : Con := fun args => match args with
  | [.vslc 1 .body a0, .flt .f32 a1, .flt .f32 a2, .int .i64 a3] => some (.need (impl_RunBodies_need a0 a1 a2 a3) (impl_RunBodies_forms (impl_RunBodies a0 a1 a2 a3)))
  | _ => none
set_option maxRecDepth 100000 in
theorem impl_RunBodies_ok0 : FunOK Try.prog 48 impl_RunBodies_c0.fn := by
  refine con_ok (Γ := gam [(123, impl_AreBodies_c), (124, impl_isCore_c), (92, impl_IsFinite_c), (105, impl_within_c), (44, impl_StepBodies_c)]) (gam_cons impl_AreBodies_ok (gam_cons impl_isCore_ok (gam_cons impl_IsFinite_ok (gam_cons impl_within_ok (gam_cons impl_StepBodies_ok (gam_nil)))))) tab_ok (by kernel_rfl) Try.func48 (by kernel_rfl) (by kernel_rfl) Try.ntmps48 Try.results48 (loops := impl_RunBodies_loops) (loopsOK_list (l := [lp Try.f48 0]) (by kernel_rfl) ⟨impl_RunBodies_l0, trivial⟩) 100000 fun args t h => ?_
  unfold impl_RunBodies_c0 at h
  split at h
  · rename_i a0 a1 a2 a3
    cases h
    exact ⟨rfl, agree_forms (mk := impl_RunBodies_mk) (t := impl_RunBodies_tree a0 a1 a2 a3) (by unfold Agree; kernel_rfl) (fun h => h) (impl_RunBodies_forms_get _)⟩
  · cases h
def impl_RunBodies_c : Con := fun args => impl_RunBodies_c0 (norms 0 [.slc .body, .none, .none, .none] args)
set_option maxRecDepth 100000 in
theorem impl_RunBodies_ok : FunOK Try.prog 48 impl_RunBodies_c.fn := con_norm [.slc .body, .none, .none, .none] impl_RunBodies_ok0

/-- loop.example/g01284/laws.FnExactRunBodies -/
def laws_FnExactRunBodies_tree (a0 : List Body) (a1 : Nat) (a2 : Nat) (a3 : Int) : DT (Bool) :=
  let x0 := laws_szBodyS a0 1048576;
  let x1 := decide (x0 < 0);
  .ask x1
  (
   .leaf true)
  (
   .need ((laws_toBodyS_need a0)) (
   let x2 := laws_toBodyS a0;
   .need ((spec_RunBodies_need x2 a1 a2 a3)) (
   let x3 := spec_RunBodies x2 a1 a2 a3;
   .ask ((isL x3))
   (
    .need ((laws_toBodyS_need a0)) (
    let x4 := laws_toBodyS a0;
    .need ((impl_RunBodies_need x4 a1 a2 a3)) (
    let x5 := impl_RunBodies x4 a1 a2 a3;
    .ask ((isL x5))
    (
     .need ((laws_eqBodyS_need [] [])) (
     let x6 := laws_eqBodyS [] [];
     .ask (!x6)
     (
      .leaf false)
     (
      .skip (
      .need ((laws_toBodyS_need a0)) (
      let x7 := laws_toBodyS a0;
      .need ((laws_eqBodyS_need x4 x7)) (
      let x8 := laws_eqBodyS x4 x7;
      .ask (!x8)
      (
       .leaf false)
      (
       .need ((laws_markBodyS_need x4 1)) (
       let x9 := laws_markBodyS x4 1;
       let x10 := decide (x9.1 < 0);
       .ask x10
       (
        .leaf false)
       (
        .need ((laws_eqBodyS_need [] [])) (
        let x11 := laws_eqBodyS [] [];
        .ask (!x11)
        (
         .leaf false)
        (
         .skip (
         .need ((laws_markBodyS_need [] 1)) (
         let x12 := laws_markBodyS [] 1;
         .need ((laws_heldBodyS_need [] 1)) (
         let x13 := laws_heldBodyS [] 1;
         let x14 := decide (x13 < 0);
         .ask x14
         (
          .leaf false)
         (
          let x15 := (x13 != x12.1);
          .ask x15
          (
           .leaf false)
          (
           .need ((laws_toBodyS_need a0)) (
           let x16 := laws_toBodyS a0;
           .need ((impl_RunBodies_need x16 a1 a2 a3)) (
           let x17 := impl_RunBodies x16 a1 a2 a3;
           .ask ((isL x17))
           (
            .need ((laws_eqBodyS_need [] [])) (
            let x18 := laws_eqBodyS [] [];
            .ask (!x18)
            (
             .leaf false)
            (
             .skip (
             .need ((laws_heldBodyS_need [] 1)) (
             let x19 := laws_heldBodyS [] 1;
             let x20 := decide (x19 < 0);
             .ask x20
             (
              .leaf false)
             (
              let x21 := (x19 != x12.1);
              .ask x21
              (
               .leaf false)
              (
               .leaf true)))))))
           (
            .need ((laws_eqBodyS_need ((rightD x17)) [])) (
            let x18 := laws_eqBodyS ((rightD x17)) [];
            .ask (!x18)
            (
             .leaf false)
            (
             .skip (
             .leaf false))))))))))))))))))))))
    (
     .need ((laws_eqBodyS_need ((rightD x5)) [])) (
     let x6 := laws_eqBodyS ((rightD x5)) [];
     .ask (!x6)
     (
      .leaf false)
     (
      .skip (
      .leaf false)))))))
   (
    .need ((laws_toBodyS_need a0)) (
    let x4 := laws_toBodyS a0;
    .need ((impl_RunBodies_need x4 a1 a2 a3)) (
    let x5 := impl_RunBodies x4 a1 a2 a3;
    .ask ((isL x5))
    (
     .need ((laws_eqBodyS_need [] ((rightD x3)))) (
     let x6 := laws_eqBodyS [] ((rightD x3));
     .ask (!x6)
     (
      .leaf false)
     (
      .skip (
      .leaf false))))
    (
     .need ((laws_eqBodyS_need ((rightD x5)) ((rightD x3)))) (
     let x6 := laws_eqBodyS ((rightD x5)) ((rightD x3));
     .ask (!x6)
     (
      .leaf false)
     (
      .skip (
      .need ((laws_toBodyS_need a0)) (
      let x7 := laws_toBodyS a0;
      .need ((laws_eqBodyS_need x4 x7)) (
      let x8 := laws_eqBodyS x4 x7;
      .ask (!x8)
      (
       .leaf false)
      (
       .need ((laws_markBodyS_need x4 1)) (
       let x9 := laws_markBodyS x4 1;
       let x10 := decide (x9.1 < 0);
       .ask x10
       (
        .leaf false)
       (
        .need ((laws_eqBodyS_need ((rightD x5)) ((rightD x3)))) (
        let x11 := laws_eqBodyS ((rightD x5)) ((rightD x3));
        .ask (!x11)
        (
         .leaf false)
        (
         .skip (
         .need ((laws_markBodyS_need ((rightD x5)) 1)) (
         let x12 := laws_markBodyS ((rightD x5)) 1;
         .need ((laws_heldBodyS_need x12.2 1)) (
         let x13 := laws_heldBodyS x12.2 1;
         let x14 := decide (x13 < 0);
         .ask x14
         (
          .leaf false)
         (
          let x15 := (x13 != x12.1);
          .ask x15
          (
           .leaf false)
          (
           .need ((laws_toBodyS_need a0)) (
           let x16 := laws_toBodyS a0;
           .need ((impl_RunBodies_need x16 a1 a2 a3)) (
           let x17 := impl_RunBodies x16 a1 a2 a3;
           .ask ((isL x17))
           (
            .need ((laws_eqBodyS_need [] ((rightD x3)))) (
            let x18 := laws_eqBodyS [] ((rightD x3));
            .ask (!x18)
            (
             .leaf false)
            (
             .skip (
             .leaf false))))
           (
            .need ((laws_eqBodyS_need ((rightD x17)) ((rightD x3)))) (
            let x18 := laws_eqBodyS ((rightD x17)) ((rightD x3));
            .ask (!x18)
            (
             .leaf false)
            (
             .skip (
             .need ((laws_heldBodyS_need x12.2 1)) (
             let x19 := laws_heldBodyS x12.2 1;
             let x20 := decide (x19 < 0);
             .ask x20
             (
              .leaf false)
             (
              let x21 := (x19 != x12.1);
              .ask x21
              (
               .leaf false)
              (
               .leaf true)))))))))))))))))))))))))))))))
def laws_FnExactRunBodies (a0 : List Body) (a1 : Nat) (a2 : Nat) (a3 : Int) : Bool := (laws_FnExactRunBodies_tree a0 a1 a2 a3).val
def laws_FnExactRunBodies_need (a0 : List Body) (a1 : Nat) (a2 : Nat) (a3 : Int) : Bool := (laws_FnExactRunBodies_tree a0 a1 a2 a3).ok
def laws_FnExactRunBodies_mk (p : Bool) : Ret := ⟨.bool p, []⟩
def laws_FnExactRunBodies_c0 : Con := fun args => match args with
  | [.vslc 1 .body a0, .flt .f32 a1, .flt .f32 a2, .int .i64 a3] => some (.need (laws_FnExactRunBodies_need a0 a1 a2 a3) (.leaf (laws_FnExactRunBodies_mk (laws_FnExactRunBodies a0 a1 a2 a3))))
  | _ => none
set_option maxRecDepth 100000 in
theorem laws_FnExactRunBodies_ok0 : FunOK Try.prog 11 laws_FnExactRunBodies_c0.fn := by
  refine con_ok (Γ := gam [(41, laws_szBodyS_c), (43, laws_toBodyS_c), (47, spec_RunBodies_c), (48, impl_RunBodies_c), (31, laws_eqBodyS_c), (33, laws_heldBodyS_c)] [(32, laws_markBodyS_M)]) (gam_cons laws_szBodyS_ok (gam_cons laws_toBodyS_ok (gam_cons spec_RunBodies_ok (gam_cons impl_RunBodies_ok (gam_cons laws_eqBodyS_ok (gam_cons laws_heldBodyS_ok (gam_mut laws_markBodyS_ok (gam_nil)))))))) tab_ok (by kernel_rfl) Try.func11 (by kernel_rfl) (by kernel_rfl) Try.ntmps11 Try.results11 (loopsOK_none rfl _) 100000 fun args t h => ?_
  unfold laws_FnExactRunBodies_c0 at h
  split at h
  · rename_i a0 a1 a2 a3
    cases h
    exact ⟨rfl, agree_need (mk := laws_FnExactRunBodies_mk) (t := laws_FnExactRunBodies_tree a0 a1 a2 a3) (by unfold Agree; kernel_rfl)⟩
  · cases h
def laws_FnExactRunBodies_c : Con := fun args => laws_FnExactRunBodies_c0 (norms 0 [.slc .body, .none, .none, .none] args)
set_option maxRecDepth 100000 in
theorem laws_FnExactRunBodies_ok : FunOK Try.prog 11 laws_FnExactRunBodies_c.fn := con_norm [.slc .body, .none, .none, .none] laws_FnExactRunBodies_ok0

/-- loop.example/g01284/spec.l01VLong -/
def spec_l01VLong_tree (a0 : Vec) : DT (Nat) :=
  let x0 := spec_l01VInner (⟨a0.X, a0.Y, a0.Z⟩ : Vec) (⟨a0.X, a0.Y, a0.Z⟩ : Vec);
  .need ((spec_l01Sqrt_need x0)) (
  let x1 := spec_l01Sqrt x0;
  .leaf x1)
def spec_l01VLong (a0 : Vec) : Nat := (spec_l01VLong_tree a0).val
def spec_l01VLong_need (a0 : Vec) : Bool := (spec_l01VLong_tree a0).ok
def spec_l01VLong_mk (p : Nat) : Ret := ⟨.flt .f32 p, []⟩
def spec_l01VLong_c : Con := fun args => match args with
  | [.agg [.flt .f32 a0_0, .flt .f32 a0_1, .flt .f32 a0_2]] => some (.need (spec_l01VLong_need (⟨a0_0, a0_1, a0_2⟩ : Vec)) (.leaf (spec_l01VLong_mk (spec_l01VLong (⟨a0_0, a0_1, a0_2⟩ : Vec)))))
  | _ => none
set_option maxRecDepth 100000 in
theorem spec_l01VLong_ok : FunOK Try.prog 171 spec_l01VLong_c.fn := by
  refine con_ok (Γ := gam [(213, spec_l01VInner_c), (103, spec_l01Sqrt_c)]) (gam_cons spec_l01VInner_ok (gam_cons spec_l01Sqrt_ok (gam_nil))) tab_ok (by kernel_rfl) Try.func171 (by kernel_rfl) (by kernel_rfl) Try.ntmps171 Try.results171 (loopsOK_none rfl _) 100000 fun args t h => ?_
  unfold spec_l01VLong_c at h
  split at h
  · rename_i a0_0 a0_1 a0_2
    cases h
    exact ⟨rfl, agree_need (mk := spec_l01VLong_mk) (t := spec_l01VLong_tree (⟨a0_0, a0_1, a0_2⟩ : Vec)) (by unfold Agree; kernel_rfl)⟩
  · cases h

/-- loop.example/g01284/spec.l02Apart -/
def spec_l02Apart_tree (a0 : Vec) (a1 : Vec) : DT (Nat) :=
  let x0 := spec_l01VLess (⟨a0.X, a0.Y, a0.Z⟩ : Vec) (⟨a1.X, a1.Y, a1.Z⟩ : Vec);
  .need ((spec_l01VLong_need (⟨x0.X, x0.Y, x0.Z⟩ : Vec))) (
  let x1 := spec_l01VLong (⟨x0.X, x0.Y, x0.Z⟩ : Vec);
  .leaf x1)
def spec_l02Apart (a0 : Vec) (a1 : Vec) : Nat := (spec_l02Apart_tree a0 a1).val
def spec_l02Apart_need (a0 : Vec) (a1 : Vec) : Bool := (spec_l02Apart_tree a0 a1).ok
def spec_l02Apart_mk (p : Nat) : Ret := ⟨.flt .f32 p, []⟩
def spec_l02Apart_c : Con := fun args => match args with
  | [.agg [.flt .f32 a0_0, .flt .f32 a0_1, .flt .f32 a0_2], .agg [.flt .f32 a1_0, .flt .f32 a1_1, .flt .f32 a1_2]] => some (.need (spec_l02Apart_need (⟨a0_0, a0_1, a0_2⟩ : Vec) (⟨a1_0, a1_1, a1_2⟩ : Vec)) (.leaf (spec_l02Apart_mk (spec_l02Apart (⟨a0_0, a0_1, a0_2⟩ : Vec) (⟨a1_0, a1_1, a1_2⟩ : Vec)))))
  | _ => none
set_option maxRecDepth 100000 in
theorem spec_l02Apart_ok : FunOK Try.prog 190 spec_l02Apart_c.fn := by
  refine con_ok (Γ := gam [(217, spec_l01VLess_c), (171, spec_l01VLong_c)]) (gam_cons spec_l01VLess_ok (gam_cons spec_l01VLong_ok (gam_nil))) tab_ok (by kernel_rfl) Try.func190 (by kernel_rfl) (by kernel_rfl) Try.ntmps190 Try.results190 (loopsOK_none rfl _) 100000 fun args t h => ?_
  unfold spec_l02Apart_c at h
  split at h
  · rename_i a0_0 a0_1 a0_2 a1_0 a1_1 a1_2
    cases h
    exact ⟨rfl, agree_need (mk := spec_l02Apart_mk) (t := spec_l02Apart_tree (⟨a0_0, a0_1, a0_2⟩ : Vec) (⟨a1_0, a1_1, a1_2⟩ : Vec)) (by unfold Agree; kernel_rfl)⟩
  · cases h

/-- a loop of spec_l02Nearest -/
def spec_l02Nearest_loop1_step (p : List Body × Int) (s : Int × Int × Nat × Int) : Round (Int × Int × Nat × Int) (Int × Int × Nat) :=
  let x0 := ((List.length p.1 : Nat) : Int);
  let x1 := decide (s.2.2.2 < x0);
  .ask x1
  (
   .need ((decide (0 ≤ s.2.2.2) && decide (s.2.2.2 < ((List.length p.1 : Nat) : Int)))) (
   let x2 := List.getD p.1 (Int.toNat s.2.2.2) default;
   .need ((decide (0 ≤ p.2) && decide (p.2 < ((List.length p.1 : Nat) : Int)))) (
   let x3 := List.getD p.1 (Int.toNat p.2) default;
   .need ((spec_l02Apart_need (⟨x2.At.X, x2.At.Y, x2.At.Z⟩ : Vec) (⟨x3.At.X, x3.At.Y, x3.At.Z⟩ : Vec))) (
   let x4 := spec_l02Apart (⟨x2.At.X, x2.At.Y, x2.At.Z⟩ : Vec) (⟨x3.At.X, x3.At.Y, x3.At.Z⟩ : Vec);
   let x5 := decide (s.1 < 0);
   .ask x5
   (
    let x6 := IntKind.wrap .i64 (s.2.2.2 + 1);
    .leaf (.inl (p.2, s.2.2.2, x4, x6), []))
   (
    let x6 := flt .f32 x4 s.2.2.1;
    .ask x6
    (
     let x7 := IntKind.wrap .i64 (s.2.2.2 + 1);
     .leaf (.inl (p.2, s.2.2.2, x4, x7), []))
    (
     let x7 := IntKind.wrap .i64 (s.2.2.2 + 1);
     .leaf (.inl (s.1, s.2.1, s.2.2.1, x7), [])))))))
  (
   .leaf (.inr (s.1, s.2.1, s.2.2.1), []))
def spec_l02Nearest_loop1_L (p : List Body × Int) : LoopS (Int × Int × Nat × Int) (Int × Int × Nat) := { tl := fun s => [.vslc 1 .body p.1, .junk, .junk, .junk, .junk, .junk, .int .i64 s.1, .int .i64 s.2.1, .flt .f32 s.2.2.1, .int .i64 p.2, .int .i64 s.2.2.2], hl := fun s => [], ex := fun r => .exit 2, otl := fun r => [.vslc 1 .body p.1, .junk, .junk, .junk, .junk, .junk, .int .i64 r.1, .int .i64 r.2.1, .flt .f32 r.2.2, .int .i64 p.2], ohl := fun r => [] }
def spec_l02Nearest_loop1_ext : St → Option ((List Body × Int) × (Int × Int × Nat × Int) × List Nat) := fun S => match (S.tm 0).unK, (S.tm 6).unK, (S.tm 7).unK, (S.tm 8).unK, (S.tm 9).unK, (S.tm 10).unK with
  | .vslc 1 .body q0, .int .i64 q1, .int .i64 q2, .flt .f32 q3, .int .i64 q4, .int .i64 q5 => some ((q0, q4), (q1, q2, q3, q5), [])
  | _, _, _, _, _, _ => none
def spec_l02Nearest_loop1_post (p : List Body × Int) (r : Int × Int × Nat) : DT (Ex × St) := .leaf (.exit 2, LSt [.vslc 1 .body p.1, .junk, .junk, .junk, .junk, .junk, .int .i64 r.1, .int .i64 r.2.1, .flt .f32 r.2.2, .int .i64 p.2] [])
def spec_l02Nearest_loop1 (p : List Body × Int) (s : Int × Int × Nat × Int) : Int × Int × Nat := loopVal (spec_l02Nearest_loop1_step p) s
def spec_l02Nearest_loop1_ends (p : List Body × Int) (s : Int × Int × Nat × Int) : Bool := loopEnds (spec_l02Nearest_loop1_step p) s
def spec_l02Nearest_loop1_F : LoopF := loopF spec_l02Nearest_loop1_step spec_l02Nearest_loop1_ext spec_l02Nearest_loop1_post
theorem spec_l02Nearest_loop1_hext : ∀ S p s fl, spec_l02Nearest_loop1_ext S = some (p, s, fl) → Norm S fl ((spec_l02Nearest_loop1_L p).tl s) ((spec_l02Nearest_loop1_L p).hl s) (spec_l02Nearest_loop1_L p).gl := by
  intro S p s fl h
  unfold spec_l02Nearest_loop1_ext at h
  (repeat' split at h) <;> first
    | (cases h; constructor <;> simp_all [spec_l02Nearest_loop1_L, keepT, keepH, rens, renH, PV.ren, Blk.ren, fOf, lget, nodup, natIn, lenEq, gtm, PV.unK])
    | cases h
theorem spec_l02Nearest_loop1_hpost : ∀ p r e S', (spec_l02Nearest_loop1_post p r).get = some (e, S') → e = (spec_l02Nearest_loop1_L p).ex r ∧ S' = LSt ((spec_l02Nearest_loop1_L p).otl r) ((spec_l02Nearest_loop1_L p).ohl r) ((spec_l02Nearest_loop1_L p).ogl r) := by
  intro p r e S' h
  unfold spec_l02Nearest_loop1_post at h
  simp only [DT.get, Option.some.injEq, Prod.mk.injEq] at h; exact ⟨h.1.symm, h.2.symm⟩

/-- a loop of spec_l02Nearest -/
def spec_l02Nearest_loop0_step (p : List Body) (s : Int × Int × Nat × Int) : Round (Int × Int × Nat × Int) (Int × Int × Nat) :=
  let x0 := ((List.length p : Nat) : Int);
  let x1 := decide (s.2.2.2 < x0);
  .ask x1
  (
   let x2 := IntKind.wrap .i64 (s.2.2.2 + 1);
   .need ((spec_l02Nearest_loop1_ends (p, s.2.2.2) (s.1, s.2.1, s.2.2.1, x2))) (
   let x3 := spec_l02Nearest_loop1 (p, s.2.2.2) (s.1, s.2.1, s.2.2.1, x2);
   let x4 := IntKind.wrap .i64 (s.2.2.2 + 1);
   .leaf (.inl (x3.1, x3.2.1, x3.2.2, x4), [])))
  (
   .leaf (.inr (s.1, s.2.1, s.2.2.1), []))
def spec_l02Nearest_loop0_L (p : List Body) : LoopS (Int × Int × Nat × Int) (Int × Int × Nat) := { tl := fun s => [.vslc 1 .body p, .junk, .junk, .junk, .junk, .junk, .int .i64 s.1, .int .i64 s.2.1, .flt .f32 s.2.2.1, .int .i64 s.2.2.2], hl := fun s => [], ex := fun r => .exit 0, otl := fun r => [.junk, .junk, .junk, .junk, .junk, .junk, .int .i64 r.1, .int .i64 r.2.1, .flt .f32 r.2.2], ohl := fun r => [] }
def spec_l02Nearest_loop0_ext : St → Option ((List Body) × (Int × Int × Nat × Int) × List Nat) := fun S => match (S.tm 0).unK, (S.tm 6).unK, (S.tm 7).unK, (S.tm 8).unK, (S.tm 9).unK with
  | .vslc 1 .body q0, .int .i64 q1, .int .i64 q2, .flt .f32 q3, .int .i64 q4 => some (q0, (q1, q2, q3, q4), [])
  | _, _, _, _, _ => none
def spec_l02Nearest_loop0_post (p : List Body) (r : Int × Int × Nat) : DT (Ex × St) := .leaf (.exit 0, LSt [.junk, .junk, .junk, .junk, .junk, .junk, .int .i64 r.1, .int .i64 r.2.1, .flt .f32 r.2.2] [])
def spec_l02Nearest_loop0 (p : List Body) (s : Int × Int × Nat × Int) : Int × Int × Nat := loopVal (spec_l02Nearest_loop0_step p) s
def spec_l02Nearest_loop0_ends (p : List Body) (s : Int × Int × Nat × Int) : Bool := loopEnds (spec_l02Nearest_loop0_step p) s
def spec_l02Nearest_loop0_F : LoopF := loopF spec_l02Nearest_loop0_step spec_l02Nearest_loop0_ext spec_l02Nearest_loop0_post
theorem spec_l02Nearest_loop0_hext : ∀ S p s fl, spec_l02Nearest_loop0_ext S = some (p, s, fl) → Norm S fl ((spec_l02Nearest_loop0_L p).tl s) ((spec_l02Nearest_loop0_L p).hl s) (spec_l02Nearest_loop0_L p).gl := by
  intro S p s fl h
  unfold spec_l02Nearest_loop0_ext at h
  (repeat' split at h) <;> first
    | (cases h; constructor <;> simp_all [spec_l02Nearest_loop0_L, keepT, keepH, rens, renH, PV.ren, Blk.ren, fOf, lget, nodup, natIn, lenEq, gtm, PV.unK])
    | cases h
theorem spec_l02Nearest_loop0_hpost : ∀ p r e S', (spec_l02Nearest_loop0_post p r).get = some (e, S') → e = (spec_l02Nearest_loop0_L p).ex r ∧ S' = LSt ((spec_l02Nearest_loop0_L p).otl r) ((spec_l02Nearest_loop0_L p).ohl r) ((spec_l02Nearest_loop0_L p).ogl r) := by
  intro p r e S' h
  unfold spec_l02Nearest_loop0_post at h
  simp only [DT.get, Option.some.injEq, Prod.mk.injEq] at h; exact ⟨h.1.symm, h.2.symm⟩

def spec_l02Nearest_loops : Nat → Option LoopF := loopTab [(8, spec_l02Nearest_loop1_F), (5, spec_l02Nearest_loop0_F)]
set_option maxRecDepth 100000 in
theorem spec_l02Nearest_l1 : LoopOK Try.prog ⟨gam [(190, spec_l02Apart_c), (88, spec_l01Finite_c)], tab, 56, spec_l02Nearest_loops⟩ (lp Try.f128 1) :=
  loopOK_some (F := spec_l02Nearest_loop1_F) (by kernel_rfl) (loopF_ok (E := ⟨gam [(190, spec_l02Apart_c), (88, spec_l01Finite_c)], tab, 56, spec_l02Nearest_loops⟩) ⟨gam_cons spec_l02Apart_ok (gam_cons spec_l01Finite_ok (gam_nil)), tab_ok, by kernel_rfl⟩ (fuel := 100000) (loopsOK_list (l := []) (by kernel_rfl) trivial) (L := spec_l02Nearest_loop1_L) (fun p s => by unfold AgreeL; exact ⟨by kernel_rfl, by kernel_rfl⟩) (fun _ _ h => Ex.noConfusion h) spec_l02Nearest_loop1_hext spec_l02Nearest_loop1_hpost)
set_option maxRecDepth 100000 in
theorem spec_l02Nearest_l0 : LoopOK Try.prog ⟨gam [(190, spec_l02Apart_c), (88, spec_l01Finite_c)], tab, 56, spec_l02Nearest_loops⟩ (lp Try.f128 0) :=
  loopOK_some (F := spec_l02Nearest_loop0_F) (by kernel_rfl) (loopF_ok (E := ⟨gam [(190, spec_l02Apart_c), (88, spec_l01Finite_c)], tab, 56, spec_l02Nearest_loops⟩) ⟨gam_cons spec_l02Apart_ok (gam_cons spec_l01Finite_ok (gam_nil)), tab_ok, by kernel_rfl⟩ (fuel := 100000) (loopsOK_list (l := [lp Try.f128 1]) (by kernel_rfl) ⟨spec_l02Nearest_l1, trivial⟩) (L := spec_l02Nearest_loop0_L) (fun p s => by unfold AgreeL; exact ⟨by kernel_rfl, by kernel_rfl⟩) (fun _ _ h => Ex.noConfusion h) spec_l02Nearest_loop0_hext spec_l02Nearest_loop0_hpost)
/-- loop.example/g01284/spec.l02Nearest -/
def spec_l02Nearest_tree (a0 : List Body) : DT (Int × Int × Nat × Bool) :=
  .need ((spec_l02Nearest_loop0_ends a0 ((-1), (-1), 0, 0))) (
  let x0 := spec_l02Nearest_loop0 a0 ((-1), (-1), 0, 0);
  let x1 := decide (x0.1 ≥ 0);
  .ask x1
  (
   let x2 := spec_l01Finite x0.2.2;
   .leaf (x0.1, x0.2.1, x0.2.2, x2))
  (
   .leaf (x0.1, x0.2.1, x0.2.2, false)))
def spec_l02Nearest (a0 : List Body) : Int × Int × Nat × Bool := (spec_l02Nearest_tree a0).val
def spec_l02Nearest_need (a0 : List Body) : Bool := (spec_l02Nearest_tree a0).ok
def spec_l02Nearest_mk (p : Int × Int × Nat × Bool) : Ret := ⟨.tup [.int .i64 p.1, .int .i64 p.2.1, .flt .f32 p.2.2.1, .bool p.2.2.2], []⟩
def spec_l02Nearest_c0 : Con := fun args => match args with
  | [.vslc 1 .body a0] => some (.need (spec_l02Nearest_need a0) (.leaf (spec_l02Nearest_mk (spec_l02Nearest a0))))
  | _ => none
set_option maxRecDepth 100000 in
theorem spec_l02Nearest_ok0 : FunOK Try.prog 128 spec_l02Nearest_c0.fn := by
  refine con_ok (Γ := gam [(190, spec_l02Apart_c), (88, spec_l01Finite_c)]) (gam_cons spec_l02Apart_ok (gam_cons spec_l01Finite_ok (gam_nil))) tab_ok (by kernel_rfl) Try.func128 (by kernel_rfl) (by kernel_rfl) Try.ntmps128 Try.results128 (loops := spec_l02Nearest_loops) (loopsOK_list (l := [lp Try.f128 0, lp Try.f128 1]) (by kernel_rfl) ⟨spec_l02Nearest_l0, ⟨spec_l02Nearest_l1, trivial⟩⟩) 100000 fun args t h => ?_
  unfold spec_l02Nearest_c0 at h
  split at h
  · rename_i a0
    cases h
    exact ⟨rfl, agree_need (mk := spec_l02Nearest_mk) (t := spec_l02Nearest_tree a0) (by unfold Agree; kernel_rfl)⟩
  · cases h
def spec_l02Nearest_c : Con := fun args => spec_l02Nearest_c0 (norms 0 [.slc .body] args)
set_option maxRecDepth 100000 in
theorem spec_l02Nearest_ok : FunOK Try.prog 128 spec_l02Nearest_c.fn := con_norm [.slc .body] spec_l02Nearest_ok0

/-- a loop of spec_NearestPass -/
def spec_NearestPass_loop0_step (p : Nat × Nat × Int) (s : Int × Nat × Int × List Body) : Round (Int × Nat × Int × List Body) ((Int × Nat) ⊕ (Int × Nat)) :=
  let x0 := decide (s.2.2.1 ≤ p.2.2);
  .ask x0
  (
   .need ((spec_l02Nearest_need s.2.2.2)) (
   let x1 := spec_l02Nearest s.2.2.2;
   .ask (!x1.2.2.2)
   (
    .leaf (.inr (.inl ((0, 0))), []))
   (
    let x2 := (s.2.2.1 == 0);
    .ask x2
    (
     let x3 := decide (s.2.2.1 < p.2.2);
     .ask x3
     (
      .need ((spec_l02Step_need s.2.2.2 p.1 p.2.1)) (
      let x4 := spec_l02Step s.2.2.2 p.1 p.2.1;
      .ask ((isL x4))
      (
       .skip (
       .leaf (.inr (.inl ((0, 0))), [])))
      (
       .skip (
       let x5 := IntKind.wrap .i64 (s.2.2.1 + 1);
       .leaf (.inl (s.2.2.1, x1.2.2.1, x5, (rightD x4)), [265])))))
     (
      let x4 := IntKind.wrap .i64 (s.2.2.1 + 1);
      .leaf (.inl (s.2.2.1, x1.2.2.1, x4, s.2.2.2), [0])))
    (
     let x3 := flt .f32 x1.2.2.1 s.2.1;
     .ask x3
     (
      let x4 := decide (s.2.2.1 < p.2.2);
      .ask x4
      (
       .need ((spec_l02Step_need s.2.2.2 p.1 p.2.1)) (
       let x5 := spec_l02Step s.2.2.2 p.1 p.2.1;
       .ask ((isL x5))
       (
        .skip (
        .leaf (.inr (.inl ((0, 0))), [])))
       (
        .skip (
        let x6 := IntKind.wrap .i64 (s.2.2.1 + 1);
        .leaf (.inl (s.2.2.1, x1.2.2.1, x6, (rightD x5)), [265])))))
      (
       let x5 := IntKind.wrap .i64 (s.2.2.1 + 1);
       .leaf (.inl (s.2.2.1, x1.2.2.1, x5, s.2.2.2), [0])))
     (
      let x4 := decide (s.2.2.1 < p.2.2);
      .ask x4
      (
       .need ((spec_l02Step_need s.2.2.2 p.1 p.2.1)) (
       let x5 := spec_l02Step s.2.2.2 p.1 p.2.1;
       .ask ((isL x5))
       (
        .skip (
        .leaf (.inr (.inl ((0, 0))), [])))
       (
        .skip (
        let x6 := IntKind.wrap .i64 (s.2.2.1 + 1);
        .leaf (.inl (s.1, s.2.1, x6, (rightD x5)), [233])))))
      (
       let x5 := IntKind.wrap .i64 (s.2.2.1 + 1);
       .leaf (.inl (s.1, s.2.1, x5, s.2.2.2), [0])))))))
  (
   .leaf (.inr (.inr ((s.1, s.2.1))), []))
def spec_NearestPass_loop0_L (p : Nat × Nat × Int) : LoopS (Int × Nat × Int × List Body) ((Int × Nat) ⊕ (Int × Nat)) := { tl := fun s => [.junk, .flt .f32 p.1, .flt .f32 p.2.1, .int .i64 p.2.2, .junk, .junk, .junk, .junk, .junk, .junk, .junk, .own 0, .int .i64 s.1, .flt .f32 s.2.1, .int .i64 s.2.2.1], hl := fun s => [some (.typed 132 .body s.2.2.2)], ex := fun r => match r with | .inl r => .ret | .inr r => .exit 0, otl := fun r => match r with | .inl r => [.junk, .junk, .junk, .junk, .junk, .junk, .junk, .junk, .int .i64 r.1, .flt .f32 r.2, .bool false] | .inr r => [.junk, .junk, .junk, .junk, .junk, .junk, .junk, .junk, .junk, .junk, .junk, .junk, .int .i64 r.1, .flt .f32 r.2], ohl := fun r => match r with | .inl r => [] | .inr r => [] }
def spec_NearestPass_loop0_ext : St → Option ((Nat × Nat × Int) × (Int × Nat × Int × List Body) × List Nat) := fun S => match (S.tm 1).unK, (S.tm 2).unK, (S.tm 3).unK, (S.tm 11).unK, (S.tm 12).unK, (S.tm 13).unK, (S.tm 14).unK with
  | .flt .f32 q0, .flt .f32 q1, .int .i64 q2, .own i0, .int .i64 q3, .flt .f32 q4, .int .i64 q5 => (match S.hp i0 with
    | some (.typed 132 .body q6) => some ((q0, q1, q2), (q3, q4, q5, q6), [i0])
    | _ => none)
  | _, _, _, _, _, _, _ => none
def spec_NearestPass_loop0_post (p : Nat × Nat × Int) (r : (Int × Nat) ⊕ (Int × Nat)) : DT (Ex × St) := .ask (isL r) (.leaf (.ret, LSt [.junk, .junk, .junk, .junk, .junk, .junk, .junk, .junk, .int .i64 ((leftD r).1), .flt .f32 ((leftD r).2), .bool false] [])) (.leaf (.exit 0, LSt [.junk, .junk, .junk, .junk, .junk, .junk, .junk, .junk, .junk, .junk, .junk, .junk, .int .i64 ((rightD r).1), .flt .f32 ((rightD r).2)] []))
def spec_NearestPass_loop0 (p : Nat × Nat × Int) (s : Int × Nat × Int × List Body) : (Int × Nat) ⊕ (Int × Nat) := loopVal (spec_NearestPass_loop0_step p) s
def spec_NearestPass_loop0_ends (p : Nat × Nat × Int) (s : Int × Nat × Int × List Body) : Bool := loopEnds (spec_NearestPass_loop0_step p) s
def spec_NearestPass_loop0_F : LoopF := loopF spec_NearestPass_loop0_step spec_NearestPass_loop0_ext spec_NearestPass_loop0_post
theorem spec_NearestPass_loop0_hext : ∀ S p s fl, spec_NearestPass_loop0_ext S = some (p, s, fl) → Norm S fl ((spec_NearestPass_loop0_L p).tl s) ((spec_NearestPass_loop0_L p).hl s) (spec_NearestPass_loop0_L p).gl := by
  intro S p s fl h
  unfold spec_NearestPass_loop0_ext at h
  (repeat' split at h) <;> first
    | (cases h; constructor <;> simp_all [spec_NearestPass_loop0_L, keepT, keepH, rens, renH, PV.ren, Blk.ren, fOf, lget, nodup, natIn, lenEq, gtm, PV.unK])
    | cases h
theorem spec_NearestPass_loop0_hpost : ∀ p r e S', (spec_NearestPass_loop0_post p r).get = some (e, S') → e = (spec_NearestPass_loop0_L p).ex r ∧ S' = LSt ((spec_NearestPass_loop0_L p).otl r) ((spec_NearestPass_loop0_L p).ohl r) ((spec_NearestPass_loop0_L p).ogl r) := by
  intro p r e S' h
  unfold spec_NearestPass_loop0_post at h
  cases r <;> (simp only [isL, DT.get, Option.some.injEq, Prod.mk.injEq] at h; exact ⟨h.1.symm, h.2.symm⟩)

def spec_NearestPass_loops : Nat → Option LoopF := loopTab [(7, spec_NearestPass_loop0_F)]
set_option maxRecDepth 100000 in
theorem spec_NearestPass_l0 : LoopOK Try.prog ⟨gam [(117, spec_l02Can_c), (125, spec_l02Steps_c), (127, spec_l02Own_c), (128, spec_l02Nearest_c), (118, spec_l02Step_c)], tab, 71, spec_NearestPass_loops⟩ (lp Try.f49 0) :=
  loopOK_some (F := spec_NearestPass_loop0_F) (by kernel_rfl) (loopF_ok (E := ⟨gam [(117, spec_l02Can_c), (125, spec_l02Steps_c), (127, spec_l02Own_c), (128, spec_l02Nearest_c), (118, spec_l02Step_c)], tab, 71, spec_NearestPass_loops⟩) ⟨gam_cons spec_l02Can_ok (gam_cons spec_l02Steps_ok (gam_cons spec_l02Own_ok (gam_cons spec_l02Nearest_ok (gam_cons spec_l02Step_ok (gam_nil))))), tab_ok, by kernel_rfl⟩ (fuel := 100000) (loopsOK_list (l := []) (by kernel_rfl) trivial) (L := spec_NearestPass_loop0_L) (fun p s => by unfold AgreeL; exact ⟨by kernel_rfl, by kernel_rfl⟩) (fun _ r h => by cases r <;> exact Ex.noConfusion h) spec_NearestPass_loop0_hext spec_NearestPass_loop0_hpost)
/-- loop.example/g01284/spec.NearestPass -/
def spec_NearestPass_tree (a0 : List Body) (a1 : Nat) (a2 : Nat) (a3 : Int) : DT (Int × Nat × Bool) :=
  .need ((spec_l02Can_need a0 a1 a2)) (
  let x0 := spec_l02Can a0 a1 a2;
  .ask (!x0)
  (
   .leaf (0, 0, false))
  (
   let x1 := spec_l02Steps a3;
   .ask (!x1)
   (
    .leaf (0, 0, false))
   (
    .need ((spec_l02Own_need a0)) (
    let x2 := spec_l02Own a0;
    .need ((spec_NearestPass_loop0_ends (a1, a2, a3) (0, 0, 0, x2))) (
    let x3 := spec_NearestPass_loop0 (a1, a2, a3) (0, 0, 0, x2);
    .ask ((isL x3))
    (
     .leaf ((leftD x3).1, (leftD x3).2, false))
    (
     .leaf ((rightD x3).1, (rightD x3).2, true)))))))
def spec_NearestPass (a0 : List Body) (a1 : Nat) (a2 : Nat) (a3 : Int) : Int × Nat × Bool := (spec_NearestPass_tree a0 a1 a2 a3).val
def spec_NearestPass_need (a0 : List Body) (a1 : Nat) (a2 : Nat) (a3 : Int) : Bool := (spec_NearestPass_tree a0 a1 a2 a3).ok
def spec_NearestPass_mk (p : Int × Nat × Bool) : Ret := ⟨.tup [.int .i64 p.1, .flt .f32 p.2.1, .bool p.2.2], []⟩
def spec_NearestPass_c0 : Con := fun args => match args with
  | [.vslc 1 .body a0, .flt .f32 a1, .flt .f32 a2, .int .i64 a3] => some (.need (spec_NearestPass_need a0 a1 a2 a3) (.leaf (spec_NearestPass_mk (spec_NearestPass a0 a1 a2 a3))))
  | _ => none
set_option maxRecDepth 100000 in
theorem spec_NearestPass_ok0 : FunOK Try.prog 49 spec_NearestPass_c0.fn := by
  refine con_ok (Γ := gam [(117, spec_l02Can_c), (125, spec_l02Steps_c), (127, spec_l02Own_c), (128, spec_l02Nearest_c), (118, spec_l02Step_c)]) (gam_cons spec_l02Can_ok (gam_cons spec_l02Steps_ok (gam_cons spec_l02Own_ok (gam_cons spec_l02Nearest_ok (gam_cons spec_l02Step_ok (gam_nil)))))) tab_ok (by kernel_rfl) Try.func49 (by kernel_rfl) (by kernel_rfl) Try.ntmps49 Try.results49 (loops := spec_NearestPass_loops) (loopsOK_list (l := [lp Try.f49 0]) (by kernel_rfl) ⟨spec_NearestPass_l0, trivial⟩) 100000 fun args t h => ?_
  unfold spec_NearestPass_c0 at h
  split at h
  · rename_i a0 a1 a2 a3
    cases h
    exact ⟨rfl, agree_need (mk := spec_NearestPass_mk) (t := spec_NearestPass_tree a0 a1 a2 a3) (by unfold Agree; kernel_rfl)⟩
  · cases h
def spec_NearestPass_c : Con := fun args => spec_NearestPass_c0 (norms 0 [.slc .body, .none, .none, .none] args)
set_option maxRecDepth 100000 in
theorem spec_NearestPass_ok : FunOK Try.prog 49 spec_NearestPass_c.fn := con_norm [.slc .body, .none, .none, .none] spec_NearestPass_ok0

/-- loop.example/g01284/impl.SizeOfVector -/
def impl_SizeOfVector_tree (a0 : Vec) : DT (Nat) :=
  let x0 := impl_InnerOf (⟨a0.X, a0.Y, a0.Z⟩ : Vec) (⟨a0.X, a0.Y, a0.Z⟩ : Vec);
  .need ((impl_RootNumber_need x0)) (
  let x1 := impl_RootNumber x0;
  .leaf x1)
def impl_SizeOfVector (a0 : Vec) : Nat := (impl_SizeOfVector_tree a0).val
def impl_SizeOfVector_need (a0 : Vec) : Bool := (impl_SizeOfVector_tree a0).ok
def impl_SizeOfVector_mk (p : Nat) : Ret := ⟨.flt .f32 p, []⟩
def impl_SizeOfVector_c : Con := fun args => match args with
  | [.agg [.flt .f32 a0_0, .flt .f32 a0_1, .flt .f32 a0_2]] => some (.need (impl_SizeOfVector_need (⟨a0_0, a0_1, a0_2⟩ : Vec)) (.leaf (impl_SizeOfVector_mk (impl_SizeOfVector (⟨a0_0, a0_1, a0_2⟩ : Vec)))))
  | _ => none
set_option maxRecDepth 100000 in
theorem impl_SizeOfVector_ok : FunOK Try.prog 97 impl_SizeOfVector_c.fn := by
  refine con_ok (Γ := gam [(176, impl_InnerOf_c), (93, impl_RootNumber_c)]) (gam_cons impl_InnerOf_ok (gam_cons impl_RootNumber_ok (gam_nil))) tab_ok (by kernel_rfl) Try.func97 (by kernel_rfl) (by kernel_rfl) Try.ntmps97 Try.results97 (loopsOK_none rfl _) 100000 fun args t h => ?_
  unfold impl_SizeOfVector_c at h
  split at h
  · rename_i a0_0 a0_1 a0_2
    cases h
    exact ⟨rfl, agree_need (mk := impl_SizeOfVector_mk) (t := impl_SizeOfVector_tree (⟨a0_0, a0_1, a0_2⟩ : Vec)) (by unfold Agree; kernel_rfl)⟩
  · cases h

/-- a loop of impl_nearest -/
def impl_nearest_loop1_step (p : List Body × Int × Int × Int) (s : Int × Int × Nat × Int) : Round (Int × Int × Nat × Int) (Int × Int × Nat) :=
  let x0 := ((List.length p.1 : Nat) : Int);
  let x1 := decide (s.2.2.2 < x0);
  .ask x1
  (
   .need ((decide (0 ≤ s.2.2.2) && decide (s.2.2.2 < ((List.length p.1 : Nat) : Int)))) (
   let x2 := List.getD p.1 (Int.toNat s.2.2.2) default;
   .need ((decide (0 ≤ p.2.1) && decide (p.2.1 < ((List.length p.1 : Nat) : Int)))) (
   let x3 := List.getD p.1 (Int.toNat p.2.1) default;
   let x4 := impl_LessVectors (⟨x2.At.X, x2.At.Y, x2.At.Z⟩ : Vec) (⟨x3.At.X, x3.At.Y, x3.At.Z⟩ : Vec);
   .need ((impl_SizeOfVector_need (⟨x4.X, x4.Y, x4.Z⟩ : Vec))) (
   let x5 := impl_SizeOfVector (⟨x4.X, x4.Y, x4.Z⟩ : Vec);
   let x6 := decide (s.1 < 0);
   .ask x6
   (
    let x7 := IntKind.wrap .i64 (s.2.2.2 + 1);
    .leaf (.inl (p.2.1, s.2.2.2, x5, x7), []))
   (
    let x7 := flt .f32 x5 s.2.2.1;
    .ask x7
    (
     let x8 := IntKind.wrap .i64 (s.2.2.2 + 1);
     .leaf (.inl (p.2.1, s.2.2.2, x5, x8), []))
    (
     let x8 := IntKind.wrap .i64 (s.2.2.2 + 1);
     .leaf (.inl (s.1, s.2.1, s.2.2.1, x8), [])))))))
  (
   .leaf (.inr (s.1, s.2.1, s.2.2.1), []))
def impl_nearest_loop1_L (p : List Body × Int × Int × Int) : LoopS (Int × Int × Nat × Int) (Int × Int × Nat) := { tl := fun s => [.vslc 1 .body p.1, .junk, .junk, .junk, .junk, .int .i64 s.1, .int .i64 s.2.1, .flt .f32 s.2.2.1, .int .i64 p.2.1, .int .i64 s.2.2.2, .junk, .junk, .int .i64 p.2.2.1, .int .i64 p.2.2.2], hl := fun s => [], ex := fun r => .exit 2, otl := fun r => [.vslc 1 .body p.1, .junk, .junk, .junk, .junk, .int .i64 r.1, .int .i64 r.2.1, .flt .f32 r.2.2, .junk, .junk, .junk, .junk, .int .i64 p.2.2.1, .int .i64 p.2.2.2], ohl := fun r => [] }
def impl_nearest_loop1_ext : St → Option ((List Body × Int × Int × Int) × (Int × Int × Nat × Int) × List Nat) := fun S => match (S.tm 0).unK, (S.tm 5).unK, (S.tm 6).unK, (S.tm 7).unK, (S.tm 8).unK, (S.tm 9).unK, (S.tm 12).unK, (S.tm 13).unK with
  | .vslc 1 .body q0, .int .i64 q1, .int .i64 q2, .flt .f32 q3, .int .i64 q4, .int .i64 q5, .int .i64 q6, .int .i64 q7 => some ((q0, q4, q6, q7), (q1, q2, q3, q5), [])
  | _, _, _, _, _, _, _, _ => none
def impl_nearest_loop1_post (p : List Body × Int × Int × Int) (r : Int × Int × Nat) : DT (Ex × St) := .leaf (.exit 2, LSt [.vslc 1 .body p.1, .junk, .junk, .junk, .junk, .int .i64 r.1, .int .i64 r.2.1, .flt .f32 r.2.2, .junk, .junk, .junk, .junk, .int .i64 p.2.2.1, .int .i64 p.2.2.2] [])
def impl_nearest_loop1 (p : List Body × Int × Int × Int) (s : Int × Int × Nat × Int) : Int × Int × Nat := loopVal (impl_nearest_loop1_step p) s
def impl_nearest_loop1_ends (p : List Body × Int × Int × Int) (s : Int × Int × Nat × Int) : Bool := loopEnds (impl_nearest_loop1_step p) s
def impl_nearest_loop1_F : LoopF := loopF impl_nearest_loop1_step impl_nearest_loop1_ext impl_nearest_loop1_post
theorem impl_nearest_loop1_hext : ∀ S p s fl, impl_nearest_loop1_ext S = some (p, s, fl) → Norm S fl ((impl_nearest_loop1_L p).tl s) ((impl_nearest_loop1_L p).hl s) (impl_nearest_loop1_L p).gl := by
  intro S p s fl h
  unfold impl_nearest_loop1_ext at h
  (repeat' split at h) <;> first
    | (cases h; constructor <;> simp_all [impl_nearest_loop1_L, keepT, keepH, rens, renH, PV.ren, Blk.ren, fOf, lget, nodup, natIn, lenEq, gtm, PV.unK])
    | cases h
theorem impl_nearest_loop1_hpost : ∀ p r e S', (impl_nearest_loop1_post p r).get = some (e, S') → e = (impl_nearest_loop1_L p).ex r ∧ S' = LSt ((impl_nearest_loop1_L p).otl r) ((impl_nearest_loop1_L p).ohl r) ((impl_nearest_loop1_L p).ogl r) := by
  intro p r e S' h
  unfold impl_nearest_loop1_post at h
  simp only [DT.get, Option.some.injEq, Prod.mk.injEq] at h; exact ⟨h.1.symm, h.2.symm⟩

/-- a loop of impl_nearest -/
def impl_nearest_loop0_step (p : List Body × Int) (s : Int × Int × Nat × Int) : Round (Int × Int × Nat × Int) (Int × Int × Nat) :=
  let x0 := decide (s.2.2.2 < p.2);
  .ask x0
  (
   let x1 := IntKind.wrap .i64 (s.2.2.2 + 1);
   .need ((impl_nearest_loop1_ends (p.1, s.2.2.2, p.2, s.2.2.2) (s.1, s.2.1, s.2.2.1, x1))) (
   let x2 := impl_nearest_loop1 (p.1, s.2.2.2, p.2, s.2.2.2) (s.1, s.2.1, s.2.2.1, x1);
   let x3 := IntKind.wrap .i64 (s.2.2.2 + 1);
   .leaf (.inl (x2.1, x2.2.1, x2.2.2, x3), [])))
  (
   .leaf (.inr (s.1, s.2.1, s.2.2.1), []))
def impl_nearest_loop0_L (p : List Body × Int) : LoopS (Int × Int × Nat × Int) (Int × Int × Nat) := { tl := fun s => [.vslc 1 .body p.1, .junk, .junk, .junk, .junk, .int .i64 s.1, .int .i64 s.2.1, .flt .f32 s.2.2.1, .junk, .junk, .junk, .junk, .int .i64 p.2, .int .i64 s.2.2.2], hl := fun s => [], ex := fun r => .exit 0, otl := fun r => [.junk, .junk, .junk, .junk, .junk, .int .i64 r.1, .int .i64 r.2.1, .flt .f32 r.2.2], ohl := fun r => [] }
def impl_nearest_loop0_ext : St → Option ((List Body × Int) × (Int × Int × Nat × Int) × List Nat) := fun S => match (S.tm 0).unK, (S.tm 5).unK, (S.tm 6).unK, (S.tm 7).unK, (S.tm 12).unK, (S.tm 13).unK with
  | .vslc 1 .body q0, .int .i64 q1, .int .i64 q2, .flt .f32 q3, .int .i64 q4, .int .i64 q5 => some ((q0, q4), (q1, q2, q3, q5), [])
  | _, _, _, _, _, _ => none
def impl_nearest_loop0_post (p : List Body × Int) (r : Int × Int × Nat) : DT (Ex × St) := .leaf (.exit 0, LSt [.junk, .junk, .junk, .junk, .junk, .int .i64 r.1, .int .i64 r.2.1, .flt .f32 r.2.2] [])
def impl_nearest_loop0 (p : List Body × Int) (s : Int × Int × Nat × Int) : Int × Int × Nat := loopVal (impl_nearest_loop0_step p) s
def impl_nearest_loop0_ends (p : List Body × Int) (s : Int × Int × Nat × Int) : Bool := loopEnds (impl_nearest_loop0_step p) s
def impl_nearest_loop0_F : LoopF := loopF impl_nearest_loop0_step impl_nearest_loop0_ext impl_nearest_loop0_post
theorem impl_nearest_loop0_hext : ∀ S p s fl, impl_nearest_loop0_ext S = some (p, s, fl) → Norm S fl ((impl_nearest_loop0_L p).tl s) ((impl_nearest_loop0_L p).hl s) (impl_nearest_loop0_L p).gl := by
  intro S p s fl h
  unfold impl_nearest_loop0_ext at h
  (repeat' split at h) <;> first
    | (cases h; constructor <;> simp_all [impl_nearest_loop0_L, keepT, keepH, rens, renH, PV.ren, Blk.ren, fOf, lget, nodup, natIn, lenEq, gtm, PV.unK])
    | cases h
theorem impl_nearest_loop0_hpost : ∀ p r e S', (impl_nearest_loop0_post p r).get = some (e, S') → e = (impl_nearest_loop0_L p).ex r ∧ S' = LSt ((impl_nearest_loop0_L p).otl r) ((impl_nearest_loop0_L p).ohl r) ((impl_nearest_loop0_L p).ogl r) := by
  intro p r e S' h
  unfold impl_nearest_loop0_post at h
  simp only [DT.get, Option.some.injEq, Prod.mk.injEq] at h; exact ⟨h.1.symm, h.2.symm⟩

def impl_nearest_loops : Nat → Option LoopF := loopTab [(6, impl_nearest_loop1_F), (3, impl_nearest_loop0_F)]
set_option maxRecDepth 100000 in
theorem impl_nearest_l1 : LoopOK Try.prog ⟨gam [(192, impl_LessVectors_c), (97, impl_SizeOfVector_c)], tab, 50, impl_nearest_loops⟩ (lp Try.f191 1) :=
  loopOK_some (F := impl_nearest_loop1_F) (by kernel_rfl) (loopF_ok (E := ⟨gam [(192, impl_LessVectors_c), (97, impl_SizeOfVector_c)], tab, 50, impl_nearest_loops⟩) ⟨gam_cons impl_LessVectors_ok (gam_cons impl_SizeOfVector_ok (gam_nil)), tab_ok, by kernel_rfl⟩ (fuel := 100000) (loopsOK_list (l := []) (by kernel_rfl) trivial) (L := impl_nearest_loop1_L) (fun p s => by unfold AgreeL; exact ⟨by kernel_rfl, by kernel_rfl⟩) (fun _ _ h => Ex.noConfusion h) impl_nearest_loop1_hext impl_nearest_loop1_hpost)
set_option maxRecDepth 100000 in
theorem impl_nearest_l0 : LoopOK Try.prog ⟨gam [(192, impl_LessVectors_c), (97, impl_SizeOfVector_c)], tab, 50, impl_nearest_loops⟩ (lp Try.f191 0) :=
  loopOK_some (F := impl_nearest_loop0_F) (by kernel_rfl) (loopF_ok (E := ⟨gam [(192, impl_LessVectors_c), (97, impl_SizeOfVector_c)], tab, 50, impl_nearest_loops⟩) ⟨gam_cons impl_LessVectors_ok (gam_cons impl_SizeOfVector_ok (gam_nil)), tab_ok, by kernel_rfl⟩ (fuel := 100000) (loopsOK_list (l := [lp Try.f191 1]) (by kernel_rfl) ⟨impl_nearest_l1, trivial⟩) (L := impl_nearest_loop0_L) (fun p s => by unfold AgreeL; exact ⟨by kernel_rfl, by kernel_rfl⟩) (fun _ _ h => Ex.noConfusion h) impl_nearest_loop0_hext impl_nearest_loop0_hpost)
/-- loop.example/g01284/impl.nearest -/
def impl_nearest_tree (a0 : List Body) : DT (Int × Int × Nat) :=
  let x0 := ((List.length a0 : Nat) : Int);
  .need ((impl_nearest_loop0_ends (a0, x0) ((-1), (-1), 0, 0))) (
  let x1 := impl_nearest_loop0 (a0, x0) ((-1), (-1), 0, 0);
  .leaf (x1.1, x1.2.1, x1.2.2))
def impl_nearest (a0 : List Body) : Int × Int × Nat := (impl_nearest_tree a0).val
def impl_nearest_need (a0 : List Body) : Bool := (impl_nearest_tree a0).ok
def impl_nearest_mk (p : Int × Int × Nat) : Ret := ⟨.tup [.int .i64 p.1, .int .i64 p.2.1, .flt .f32 p.2.2], []⟩
def impl_nearest_c0 : Con := fun args => match args with
  | [.vslc 1 .body a0] => some (.need (impl_nearest_need a0) (.leaf (impl_nearest_mk (impl_nearest a0))))
  | _ => none
set_option maxRecDepth 100000 in
theorem impl_nearest_ok0 : FunOK Try.prog 191 impl_nearest_c0.fn := by
  refine con_ok (Γ := gam [(192, impl_LessVectors_c), (97, impl_SizeOfVector_c)]) (gam_cons impl_LessVectors_ok (gam_cons impl_SizeOfVector_ok (gam_nil))) tab_ok (by kernel_rfl) Try.func191 (by kernel_rfl) (by kernel_rfl) Try.ntmps191 Try.results191 (loops := impl_nearest_loops) (loopsOK_list (l := [lp Try.f191 0, lp Try.f191 1]) (by kernel_rfl) ⟨impl_nearest_l0, ⟨impl_nearest_l1, trivial⟩⟩) 100000 fun args t h => ?_
  unfold impl_nearest_c0 at h
  split at h
  · rename_i a0
    cases h
    exact ⟨rfl, agree_need (mk := impl_nearest_mk) (t := impl_nearest_tree a0) (by unfold Agree; kernel_rfl)⟩
  · cases h
def impl_nearest_c : Con := fun args => impl_nearest_c0 (norms 0 [.slc .body] args)
set_option maxRecDepth 100000 in
theorem impl_nearest_ok : FunOK Try.prog 191 impl_nearest_c.fn := con_norm [.slc .body] impl_nearest_ok0

/-- loop.example/g01284/impl.NearestBodies -/
def impl_NearestBodies_tree (a0 : List Body) : DT (Int × Int × Nat × Bool) :=
  .need ((impl_AreBodies_need a0)) (
  let x0 := impl_AreBodies a0;
  .ask (!x0)
  (
   .leaf (0, 0, 0, false))
  (
   let x1 := ((List.length a0 : Nat) : Int);
   let x2 := decide (x1 < 2);
   .ask x2
   (
    .leaf (0, 0, 0, false))
   (
    .need ((impl_nearest_need a0)) (
    let x3 := impl_nearest a0;
    .need ((impl_IsFinite_need x3.2.2)) (
    let x4 := impl_IsFinite x3.2.2;
    .ask (!x4)
    (
     .leaf (0, 0, 0, false))
    (
     .leaf (x3.1, x3.2.1, x3.2.2, true)))))))
def impl_NearestBodies (a0 : List Body) : Int × Int × Nat × Bool := (impl_NearestBodies_tree a0).val
def impl_NearestBodies_need (a0 : List Body) : Bool := (impl_NearestBodies_tree a0).ok
def impl_NearestBodies_mk (p : Int × Int × Nat × Bool) : Ret := ⟨.tup [.int .i64 p.1, .int .i64 p.2.1, .flt .f32 p.2.2.1, .bool p.2.2.2], []⟩
def impl_NearestBodies_c0 : Con := fun args => match args with
  | [.vslc 1 .body a0] => some (.need (impl_NearestBodies_need a0) (.leaf (impl_NearestBodies_mk (impl_NearestBodies a0))))
  | _ => none
set_option maxRecDepth 100000 in
theorem impl_NearestBodies_ok0 : FunOK Try.prog 129 impl_NearestBodies_c0.fn := by
  refine con_ok (Γ := gam [(123, impl_AreBodies_c), (191, impl_nearest_c), (92, impl_IsFinite_c)]) (gam_cons impl_AreBodies_ok (gam_cons impl_nearest_ok (gam_cons impl_IsFinite_ok (gam_nil)))) tab_ok (by kernel_rfl) Try.func129 (by kernel_rfl) (by kernel_rfl) Try.ntmps129 Try.results129 (loopsOK_none rfl _) 100000 fun args t h => ?_
  unfold impl_NearestBodies_c0 at h
  split at h
  · rename_i a0
    cases h
    exact ⟨rfl, agree_need (mk := impl_NearestBodies_mk) (t := impl_NearestBodies_tree a0) (by unfold Agree; kernel_rfl)⟩
  · cases h
def impl_NearestBodies_c : Con := fun args => impl_NearestBodies_c0 (norms 0 [.slc .body] args)
set_option maxRecDepth 100000 in
theorem impl_NearestBodies_ok : FunOK Try.prog 129 impl_NearestBodies_c.fn := con_norm [.slc .body] impl_NearestBodies_ok0

/-- a loop of impl_NearestPass -/
def impl_NearestPass_loop0_step (p : Nat × Nat × Int) (s : Int × Nat × Int × List Body) : Round (Int × Nat × Int × List Body) ((Int × Nat) ⊕ (Int × Nat)) :=
  let x0 := decide (s.2.2.1 ≤ p.2.2);
  .ask x0
  (
   .need ((impl_NearestBodies_need s.2.2.2)) (
   let x1 := impl_NearestBodies s.2.2.2;
   .ask (!x1.2.2.2)
   (
    .leaf (.inr (.inl ((0, 0))), []))
   (
    let x2 := decide (s.1 < 0);
    .ask x2
    (
     let x3 := (s.2.2.1 == p.2.2);
     .ask x3
     (
      .leaf (.inr (.inr ((s.2.2.1, x1.2.2.1))), []))
     (
      .need ((impl_StepBodies_need s.2.2.2 p.1 p.2.1)) (
      let x4 := impl_StepBodies s.2.2.2 p.1 p.2.1;
      .ask ((isL x4))
      (
       .skip (
       .leaf (.inr (.inl ((0, 0))), [])))
      (
       .skip (
       let x5 := IntKind.wrap .i64 (s.2.2.1 + 1);
       .leaf (.inl (s.2.2.1, x1.2.2.1, x5, (rightD x4)), [265]))))))
    (
     let x3 := flt .f32 x1.2.2.1 s.2.1;
     .ask x3
     (
      let x4 := (s.2.2.1 == p.2.2);
      .ask x4
      (
       .leaf (.inr (.inr ((s.2.2.1, x1.2.2.1))), []))
      (
       .need ((impl_StepBodies_need s.2.2.2 p.1 p.2.1)) (
       let x5 := impl_StepBodies s.2.2.2 p.1 p.2.1;
       .ask ((isL x5))
       (
        .skip (
        .leaf (.inr (.inl ((0, 0))), [])))
       (
        .skip (
        let x6 := IntKind.wrap .i64 (s.2.2.1 + 1);
        .leaf (.inl (s.2.2.1, x1.2.2.1, x6, (rightD x5)), [265]))))))
     (
      let x4 := (s.2.2.1 == p.2.2);
      .ask x4
      (
       .leaf (.inr (.inr ((s.1, s.2.1))), []))
      (
       .need ((impl_StepBodies_need s.2.2.2 p.1 p.2.1)) (
       let x5 := impl_StepBodies s.2.2.2 p.1 p.2.1;
       .ask ((isL x5))
       (
        .skip (
        .leaf (.inr (.inl ((0, 0))), [])))
       (
        .skip (
        let x6 := IntKind.wrap .i64 (s.2.2.1 + 1);
        .leaf (.inl (s.1, s.2.1, x6, (rightD x5)), [233]))))))))))
  (
   .leaf (.inr (.inr ((s.1, s.2.1))), []))
def impl_NearestPass_loop0_L (p : Nat × Nat × Int) : LoopS (Int × Nat × Int × List Body) ((Int × Nat) ⊕ (Int × Nat)) := { tl := fun s => [.own 0, .flt .f32 p.1, .flt .f32 p.2.1, .int .i64 p.2.2, .junk, .junk, .junk, .junk, .junk, .junk, .junk, .int .i64 s.1, .flt .f32 s.2.1, .int .i64 s.2.2.1], hl := fun s => [some (.typed 132 .body s.2.2.2)], ex := fun r => match r with | .inl r => .ret | .inr r => .exit 0, otl := fun r => match r with | .inl r => [.junk, .junk, .junk, .junk, .junk, .junk, .junk, .junk, .int .i64 r.1, .flt .f32 r.2, .bool false] | .inr r => [.junk, .junk, .junk, .junk, .junk, .junk, .junk, .junk, .junk, .junk, .junk, .int .i64 r.1, .flt .f32 r.2], ohl := fun r => match r with | .inl r => [] | .inr r => [] }
def impl_NearestPass_loop0_ext : St → Option ((Nat × Nat × Int) × (Int × Nat × Int × List Body) × List Nat) := fun S => match (S.tm 0).unK, (S.tm 1).unK, (S.tm 2).unK, (S.tm 3).unK, (S.tm 11).unK, (S.tm 12).unK, (S.tm 13).unK with
  | .own i0, .flt .f32 q0, .flt .f32 q1, .int .i64 q2, .int .i64 q3, .flt .f32 q4, .int .i64 q5 => (match S.hp i0 with
    | some (.typed 132 .body q6) => some ((q0, q1, q2), (q3, q4, q5, q6), [i0])
    | _ => none)
  | _, _, _, _, _, _, _ => none
def impl_NearestPass_loop0_post (p : Nat × Nat × Int) (r : (Int × Nat) ⊕ (Int × Nat)) : DT (Ex × St) := .ask (isL r) (.leaf (.ret, LSt [.junk, .junk, .junk, .junk, .junk, .junk, .junk, .junk, .int .i64 ((leftD r).1), .flt .f32 ((leftD r).2), .bool false] [])) (.leaf (.exit 0, LSt [.junk, .junk, .junk, .junk, .junk, .junk, .junk, .junk, .junk, .junk, .junk, .int .i64 ((rightD r).1), .flt .f32 ((rightD r).2)] []))
def impl_NearestPass_loop0 (p : Nat × Nat × Int) (s : Int × Nat × Int × List Body) : (Int × Nat) ⊕ (Int × Nat) := loopVal (impl_NearestPass_loop0_step p) s
def impl_NearestPass_loop0_ends (p : Nat × Nat × Int) (s : Int × Nat × Int × List Body) : Bool := loopEnds (impl_NearestPass_loop0_step p) s
def impl_NearestPass_loop0_F : LoopF := loopF impl_NearestPass_loop0_step impl_NearestPass_loop0_ext impl_NearestPass_loop0_post
theorem impl_NearestPass_loop0_hext : ∀ S p s fl, impl_NearestPass_loop0_ext S = some (p, s, fl) → Norm S fl ((impl_NearestPass_loop0_L p).tl s) ((impl_NearestPass_loop0_L p).hl s) (impl_NearestPass_loop0_L p).gl := by
  intro S p s fl h
  unfold impl_NearestPass_loop0_ext at h
  (repeat' split at h) <;> first
    | (cases h; constructor <;> simp_all [impl_NearestPass_loop0_L, keepT, keepH, rens, renH, PV.ren, Blk.ren, fOf, lget, nodup, natIn, lenEq, gtm, PV.unK])
    | cases h
theorem impl_NearestPass_loop0_hpost : ∀ p r e S', (impl_NearestPass_loop0_post p r).get = some (e, S') → e = (impl_NearestPass_loop0_L p).ex r ∧ S' = LSt ((impl_NearestPass_loop0_L p).otl r) ((impl_NearestPass_loop0_L p).ohl r) ((impl_NearestPass_loop0_L p).ogl r) := by
  intro p r e S' h
  unfold impl_NearestPass_loop0_post at h
  cases r <;> (simp only [isL, DT.get, Option.some.injEq, Prod.mk.injEq] at h; exact ⟨h.1.symm, h.2.symm⟩)

def impl_NearestPass_loops : Nat → Option LoopF := loopTab [(5, impl_NearestPass_loop0_F)]
set_option maxRecDepth 100000 in
theorem impl_NearestPass_l0 : LoopOK Try.prog ⟨gam [(123, impl_AreBodies_c), (124, impl_isCore_c), (92, impl_IsFinite_c), (105, impl_within_c), (129, impl_NearestBodies_c), (44, impl_StepBodies_c)], tab, 75, impl_NearestPass_loops⟩ (lp Try.f50 0) :=
  loopOK_some (F := impl_NearestPass_loop0_F) (by kernel_rfl) (loopF_ok (E := ⟨gam [(123, impl_AreBodies_c), (124, impl_isCore_c), (92, impl_IsFinite_c), (105, impl_within_c), (129, impl_NearestBodies_c), (44, impl_StepBodies_c)], tab, 75, impl_NearestPass_loops⟩) ⟨gam_cons impl_AreBodies_ok (gam_cons impl_isCore_ok (gam_cons impl_IsFinite_ok (gam_cons impl_within_ok (gam_cons impl_NearestBodies_ok (gam_cons impl_StepBodies_ok (gam_nil)))))), tab_ok, by kernel_rfl⟩ (fuel := 100000) (loopsOK_list (l := []) (by kernel_rfl) trivial) (L := impl_NearestPass_loop0_L) (fun p s => by unfold AgreeL; exact ⟨by kernel_rfl, by kernel_rfl⟩) (fun _ r h => by cases r <;> exact Ex.noConfusion h) impl_NearestPass_loop0_hext impl_NearestPass_loop0_hpost)
/-- loop.example/g01284/impl.NearestPass -/
def impl_NearestPass_tree (a0 : List Body) (a1 : Nat) (a2 : Nat) (a3 : Int) : DT (Int × Nat × Bool) :=
  .need ((impl_AreBodies_need a0)) (
  let x0 := impl_AreBodies a0;
  .ask (!x0)
  (
   .leaf (0, 0, false))
  (
   .need ((impl_isCore_need a1)) (
   let x1 := impl_isCore a1;
   .ask (!x1)
   (
    .leaf (0, 0, false))
   (
    .need ((impl_IsFinite_need a2)) (
    let x2 := impl_IsFinite a2;
    .ask (!x2)
    (
     .leaf (0, 0, false))
    (
     let x3 := impl_within a3 0 64;
     .ask (!x3)
     (
      .leaf (0, 0, false))
     (
      let x4 := decide (0 ≤ a3);
      .ask x4
      (
       .need ((impl_NearestBodies_need a0)) (
       let x5 := impl_NearestBodies a0;
       .ask (!x5.2.2.2)
       (
        .leaf (0, 0, false))
       (
        .skip (
        .skip (
        .skip (
        .skip (
        let x6 := (0 == a3);
        .ask x6
        (
         .leaf (0, x5.2.2.1, true))
        (
         .need ((impl_StepBodies_need a0 a1 a2)) (
         let x7 := impl_StepBodies a0 a1 a2;
         .ask ((isL x7))
         (
          .skip (
          .leaf (0, 0, false)))
         (
          .skip (
          .need ((impl_NearestPass_loop0_ends (a1, a2, a3) (0, x5.2.2.1, 1, (rightD x7)))) (
          let x8 := impl_NearestPass_loop0 (a1, a2, a3) (0, x5.2.2.1, 1, (rightD x7));
          .ask ((isL x8))
          (
           .leaf ((leftD x8).1, (leftD x8).2, false))
          (
           .leaf ((rightD x8).1, (rightD x8).2, true))))))))))))))
      (
       .leaf ((-1), 0, true)))))))))
def impl_NearestPass (a0 : List Body) (a1 : Nat) (a2 : Nat) (a3 : Int) : Int × Nat × Bool := (impl_NearestPass_tree a0 a1 a2 a3).val
def impl_NearestPass_need (a0 : List Body) (a1 : Nat) (a2 : Nat) (a3 : Int) : Bool := (impl_NearestPass_tree a0 a1 a2 a3).ok
def impl_NearestPass_mk (p : Int × Nat × Bool) : Ret := ⟨.tup [.int .i64 p.1, .flt .f32 p.2.1, .bool p.2.2], []⟩
def impl_NearestPass_c0 : Con := fun args => match args with
  | [.vslc 1 .body a0, .flt .f32 a1, .flt .f32 a2, .int .i64 a3] => some (.need (impl_NearestPass_need a0 a1 a2 a3) (.leaf (impl_NearestPass_mk (impl_NearestPass a0 a1 a2 a3))))
  | _ => none
set_option maxRecDepth 100000 in
theorem impl_NearestPass_ok0 : FunOK Try.prog 50 impl_NearestPass_c0.fn := by
  refine con_ok (Γ := gam [(123, impl_AreBodies_c), (124, impl_isCore_c), (92, impl_IsFinite_c), (105, impl_within_c), (129, impl_NearestBodies_c), (44, impl_StepBodies_c)]) (gam_cons impl_AreBodies_ok (gam_cons impl_isCore_ok (gam_cons impl_IsFinite_ok (gam_cons impl_within_ok (gam_cons impl_NearestBodies_ok (gam_cons impl_StepBodies_ok (gam_nil))))))) tab_ok (by kernel_rfl) Try.func50 (by kernel_rfl) (by kernel_rfl) Try.ntmps50 Try.results50 (loops := impl_NearestPass_loops) (loopsOK_list (l := [lp Try.f50 0]) (by kernel_rfl) ⟨impl_NearestPass_l0, trivial⟩) 100000 fun args t h => ?_
  unfold impl_NearestPass_c0 at h
  split at h
  · rename_i a0 a1 a2 a3
    cases h
    exact ⟨rfl, agree_need (mk := impl_NearestPass_mk) (t := impl_NearestPass_tree a0 a1 a2 a3) (by unfold Agree; kernel_rfl)⟩
  · cases h
def impl_NearestPass_c : Con := fun args => impl_NearestPass_c0 (norms 0 [.slc .body, .none, .none, .none] args)
set_option maxRecDepth 100000 in
theorem impl_NearestPass_ok : FunOK Try.prog 50 impl_NearestPass_c.fn := con_norm [.slc .body, .none, .none, .none] impl_NearestPass_ok0

/-- loop.example/g01284/laws.FnExactNearestPass -/
def laws_FnExactNearestPass_tree (a0 : List Body) (a1 : Nat) (a2 : Nat) (a3 : Int) : DT (Bool) :=
  let x0 := laws_szBodyS a0 1048576;
  let x1 := decide (x0 < 0);
  .ask x1
  (
   .leaf true)
  (
   .need ((laws_toBodyS_need a0)) (
   let x2 := laws_toBodyS a0;
   .need ((spec_NearestPass_need x2 a1 a2 a3)) (
   let x3 := spec_NearestPass x2 a1 a2 a3;
   .need ((laws_toBodyS_need a0)) (
   let x4 := laws_toBodyS a0;
   .need ((impl_NearestPass_need x4 a1 a2 a3)) (
   let x5 := impl_NearestPass x4 a1 a2 a3;
   let x6 := (x5.1 != x3.1);
   .ask x6
   (
    .leaf false)
   (
    .need ((fconvOk .f32 x5.2.1 .f64)) (
    let x7 := fconv .f32 x5.2.1 .f64;
    .need ((fconvOk .f32 x3.2.1 .f64)) (
    let x8 := fconv .f32 x3.2.1 .f64;
    let x9 := laws_sameFloat x7 x8;
    .ask (!x9)
    (
     .leaf false)
    (
     let x10 := (!(x5.2.2 == x3.2.2));
     .ask x10
     (
      .leaf false)
     (
      .need ((laws_toBodyS_need a0)) (
      let x11 := laws_toBodyS a0;
      .need ((laws_eqBodyS_need x4 x11)) (
      let x12 := laws_eqBodyS x4 x11;
      .ask (!x12)
      (
       .leaf false)
      (
       .leaf true)))))))))))))
def laws_FnExactNearestPass (a0 : List Body) (a1 : Nat) (a2 : Nat) (a3 : Int) : Bool := (laws_FnExactNearestPass_tree a0 a1 a2 a3).val
def laws_FnExactNearestPass_need (a0 : List Body) (a1 : Nat) (a2 : Nat) (a3 : Int) : Bool := (laws_FnExactNearestPass_tree a0 a1 a2 a3).ok
def laws_FnExactNearestPass_mk (p : Bool) : Ret := ⟨.bool p, []⟩
def laws_FnExactNearestPass_c0 : Con := fun args => match args with
  | [.vslc 1 .body a0, .flt .f32 a1, .flt .f32 a2, .int .i64 a3] => some (.need (laws_FnExactNearestPass_need a0 a1 a2 a3) (.leaf (laws_FnExactNearestPass_mk (laws_FnExactNearestPass a0 a1 a2 a3))))
  | _ => none
set_option maxRecDepth 100000 in
theorem laws_FnExactNearestPass_ok0 : FunOK Try.prog 12 laws_FnExactNearestPass_c0.fn := by
  refine con_ok (Γ := gam [(41, laws_szBodyS_c), (43, laws_toBodyS_c), (49, spec_NearestPass_c), (50, impl_NearestPass_c), (23, laws_sameFloat_c), (31, laws_eqBodyS_c)]) (gam_cons laws_szBodyS_ok (gam_cons laws_toBodyS_ok (gam_cons spec_NearestPass_ok (gam_cons impl_NearestPass_ok (gam_cons laws_sameFloat_ok (gam_cons laws_eqBodyS_ok (gam_nil))))))) tab_ok (by kernel_rfl) Try.func12 (by kernel_rfl) (by kernel_rfl) Try.ntmps12 Try.results12 (loopsOK_none rfl _) 100000 fun args t h => ?_
  unfold laws_FnExactNearestPass_c0 at h
  split at h
  · rename_i a0 a1 a2 a3
    cases h
    exact ⟨rfl, agree_need (mk := laws_FnExactNearestPass_mk) (t := laws_FnExactNearestPass_tree a0 a1 a2 a3) (by unfold Agree; kernel_rfl)⟩
  · cases h
def laws_FnExactNearestPass_c : Con := fun args => laws_FnExactNearestPass_c0 (norms 0 [.slc .body, .none, .none, .none] args)
set_option maxRecDepth 100000 in
theorem laws_FnExactNearestPass_ok : FunOK Try.prog 12 laws_FnExactNearestPass_c.fn := con_norm [.slc .body, .none, .none, .none] laws_FnExactNearestPass_ok0

/-- a loop of spec_l02Near -/
def spec_l02Near_loop0_step (p : List Body × List Body × Nat) (s : Int) : Round (Int) ((Unit) ⊕ (Unit)) :=
  let x0 := ((List.length p.1 : Nat) : Int);
  let x1 := decide (s < x0);
  .ask x1
  (
   .need ((decide (0 ≤ s) && decide (s < ((List.length p.1 : Nat) : Int)))) (
   let x2 := List.getD p.1 (Int.toNat s) default;
   .need ((decide (0 ≤ s) && decide (s < ((List.length p.2.1 : Nat) : Int)))) (
   let x3 := List.getD p.2.1 (Int.toNat s) default;
   .need ((spec_l02Apart_need (⟨x2.At.X, x2.At.Y, x2.At.Z⟩ : Vec) (⟨x3.At.X, x3.At.Y, x3.At.Z⟩ : Vec))) (
   let x4 := spec_l02Apart (⟨x2.At.X, x2.At.Y, x2.At.Z⟩ : Vec) (⟨x3.At.X, x3.At.Y, x3.At.Z⟩ : Vec);
   let x5 := fgt .f32 x4 p.2.2;
   .ask x5
   (
    .leaf (.inr (.inl ()), []))
   (
    let x6 := IntKind.wrap .i64 (s + 1);
    .leaf (.inl x6, []))))))
  (
   .leaf (.inr (.inr ()), []))
def spec_l02Near_loop0_L (p : List Body × List Body × Nat) : LoopS (Int) ((Unit) ⊕ (Unit)) := { tl := fun s => [.vslc 1 .body p.1, .vslc 2 .body p.2.1, .flt .f32 p.2.2, .junk, .junk, .junk, .junk, .int .i64 s], hl := fun s => [], ex := fun r => match r with | .inl r => .ret | .inr r => .exit 0, otl := fun r => match r with | .inl r => [.junk, .junk, .junk, .junk, .junk, .junk, .bool false] | .inr r => [.junk], ohl := fun r => match r with | .inl r => [] | .inr r => [] }
def spec_l02Near_loop0_ext : St → Option ((List Body × List Body × Nat) × (Int) × List Nat) := fun S => match (S.tm 0).unK, (S.tm 1).unK, (S.tm 2).unK, (S.tm 7).unK with
  | .vslc 1 .body q0, .vslc 2 .body q1, .flt .f32 q2, .int .i64 q3 => some ((q0, q1, q2), q3, [])
  | _, _, _, _ => none
def spec_l02Near_loop0_post (p : List Body × List Body × Nat) (r : (Unit) ⊕ (Unit)) : DT (Ex × St) := .ask (isL r) (.leaf (.ret, LSt [.junk, .junk, .junk, .junk, .junk, .junk, .bool false] [])) (.leaf (.exit 0, LSt [.junk] []))
def spec_l02Near_loop0 (p : List Body × List Body × Nat) (s : Int) : (Unit) ⊕ (Unit) := loopVal (spec_l02Near_loop0_step p) s
def spec_l02Near_loop0_ends (p : List Body × List Body × Nat) (s : Int) : Bool := loopEnds (spec_l02Near_loop0_step p) s
def spec_l02Near_loop0_F : LoopF := loopF spec_l02Near_loop0_step spec_l02Near_loop0_ext spec_l02Near_loop0_post
theorem spec_l02Near_loop0_hext : ∀ S p s fl, spec_l02Near_loop0_ext S = some (p, s, fl) → Norm S fl ((spec_l02Near_loop0_L p).tl s) ((spec_l02Near_loop0_L p).hl s) (spec_l02Near_loop0_L p).gl := by
  intro S p s fl h
  unfold spec_l02Near_loop0_ext at h
  (repeat' split at h) <;> first
    | (cases h; constructor <;> simp_all [spec_l02Near_loop0_L, keepT, keepH, rens, renH, PV.ren, Blk.ren, fOf, lget, nodup, natIn, lenEq, gtm, PV.unK])
    | cases h
theorem spec_l02Near_loop0_hpost : ∀ p r e S', (spec_l02Near_loop0_post p r).get = some (e, S') → e = (spec_l02Near_loop0_L p).ex r ∧ S' = LSt ((spec_l02Near_loop0_L p).otl r) ((spec_l02Near_loop0_L p).ohl r) ((spec_l02Near_loop0_L p).ogl r) := by
  intro p r e S' h
  unfold spec_l02Near_loop0_post at h
  cases r <;> (simp only [isL, DT.get, Option.some.injEq, Prod.mk.injEq] at h; exact ⟨h.1.symm, h.2.symm⟩)

def spec_l02Near_loops : Nat → Option LoopF := loopTab [(2, spec_l02Near_loop0_F)]
set_option maxRecDepth 100000 in
theorem spec_l02Near_l0 : LoopOK Try.prog ⟨gam [(190, spec_l02Apart_c)], tab, 27, spec_l02Near_loops⟩ (lp Try.f130 0) :=
  loopOK_some (F := spec_l02Near_loop0_F) (by kernel_rfl) (loopF_ok (E := ⟨gam [(190, spec_l02Apart_c)], tab, 27, spec_l02Near_loops⟩) ⟨gam_cons spec_l02Apart_ok (gam_nil), tab_ok, by kernel_rfl⟩ (fuel := 100000) (loopsOK_list (l := []) (by kernel_rfl) trivial) (L := spec_l02Near_loop0_L) (fun p s => by unfold AgreeL; exact ⟨by kernel_rfl, by kernel_rfl⟩) (fun _ r h => by cases r <;> exact Ex.noConfusion h) spec_l02Near_loop0_hext spec_l02Near_loop0_hpost)
/-- loop.example/g01284/spec.l02Near -/
def spec_l02Near_tree (a0 : List Body) (a1 : List Body) (a2 : Nat) : DT (Bool) :=
  .need ((spec_l02Near_loop0_ends (a0, a1, a2) 0)) (
  let x0 := spec_l02Near_loop0 (a0, a1, a2) 0;
  .ask ((isL x0))
  (
   .leaf false)
  (
   .leaf true))
def spec_l02Near (a0 : List Body) (a1 : List Body) (a2 : Nat) : Bool := (spec_l02Near_tree a0 a1 a2).val
def spec_l02Near_need (a0 : List Body) (a1 : List Body) (a2 : Nat) : Bool := (spec_l02Near_tree a0 a1 a2).ok
def spec_l02Near_mk (p : Bool) : Ret := ⟨.bool p, []⟩
def spec_l02Near_c0 : Con := fun args => match args with
  | [.vslc 1 .body a0, .vslc 2 .body a1, .flt .f32 a2] => some (.need (spec_l02Near_need a0 a1 a2) (.leaf (spec_l02Near_mk (spec_l02Near a0 a1 a2))))
  | _ => none
set_option maxRecDepth 100000 in
theorem spec_l02Near_ok0 : FunOK Try.prog 130 spec_l02Near_c0.fn := by
  refine con_ok (Γ := gam [(190, spec_l02Apart_c)]) (gam_cons spec_l02Apart_ok (gam_nil)) tab_ok (by kernel_rfl) Try.func130 (by kernel_rfl) (by kernel_rfl) Try.ntmps130 Try.results130 (loops := spec_l02Near_loops) (loopsOK_list (l := [lp Try.f130 0]) (by kernel_rfl) ⟨spec_l02Near_l0, trivial⟩) 100000 fun args t h => ?_
  unfold spec_l02Near_c0 at h
  split at h
  · rename_i a0 a1 a2
    cases h
    exact ⟨rfl, agree_need (mk := spec_l02Near_mk) (t := spec_l02Near_tree a0 a1 a2) (by unfold Agree; kernel_rfl)⟩
  · cases h
def spec_l02Near_c : Con := fun args => spec_l02Near_c0 (norms 0 [.slc .body, .slc .body, .none] args)
set_option maxRecDepth 100000 in
theorem spec_l02Near_ok : FunOK Try.prog 130 spec_l02Near_c.fn := con_norm [.slc .body, .slc .body, .none] spec_l02Near_ok0

/-- a loop of spec_HalvedBodies -/
def spec_HalvedBodies_loop0_step (p : List Body × Nat × Nat × Nat) (s : Int) : Round (Int) ((Int × List Body) ⊕ (Unit)) :=
  let x0 := decide (s < 32);
  .ask x0
  (
   let x1 := fofInt .f32 s;
   let x2 := fdiv .f32 p.2.2.1 x1;
   .need ((spec_l02Run_need p.1 p.2.1 x2 s)) (
   let x3 := spec_l02Run p.1 p.2.1 x2 s;
   .ask ((isL x3))
   (
    let x4 := IntKind.wrap .i64 (2 * s);
    let x5 := fofInt .f32 x4;
    let x6 := fdiv .f32 p.2.2.1 x5;
    let x7 := IntKind.wrap .i64 (2 * s);
    .need ((spec_l02Run_need p.1 p.2.1 x6 x7)) (
    let x8 := spec_l02Run p.1 p.2.1 x6 x7;
    .ask ((isL x8))
    (
     .skip (
     .skip (
     let x9 := IntKind.wrap .i64 (s * 2);
     .leaf (.inl x9, []))))
    (
     .skip (
     .skip (
     let x9 := IntKind.wrap .i64 (s * 2);
     .leaf (.inl x9, []))))))
   (
    let x4 := IntKind.wrap .i64 (2 * s);
    let x5 := fofInt .f32 x4;
    let x6 := fdiv .f32 p.2.2.1 x5;
    let x7 := IntKind.wrap .i64 (2 * s);
    .need ((spec_l02Run_need p.1 p.2.1 x6 x7)) (
    let x8 := spec_l02Run p.1 p.2.1 x6 x7;
    .ask ((isL x8))
    (
     .skip (
     .skip (
     .skip (
     .skip (
     .skip (
     .skip (
     .skip (
     let x9 := IntKind.wrap .i64 (s * 2);
     .leaf (.inl x9, [])))))))))
    (
     .skip (
     .skip (
     .skip (
     .skip (
     .skip (
     .skip (
     .need ((spec_l02Near_need ((rightD x3)) ((rightD x8)) p.2.2.2)) (
     let x9 := spec_l02Near ((rightD x3)) ((rightD x8)) p.2.2.2;
     .skip (
     .ask x9
     (
      .leaf (.inr (.inl ((s, (rightD x8)))), [192]))
     (
      let x10 := IntKind.wrap .i64 (s * 2);
      .leaf (.inl x10, [])))))))))))))))
  (
   .leaf (.inr (.inr ()), []))
def spec_HalvedBodies_loop0_L (p : List Body × Nat × Nat × Nat) : LoopS (Int) ((Int × List Body) ⊕ (Unit)) := { tl := fun s => [.vslc 1 .body p.1, .flt .f32 p.2.1, .flt .f32 p.2.2.1, .flt .f32 p.2.2.2, .junk, .junk, .junk, .junk, .junk, .junk, .junk, .int .i64 s], hl := fun s => [], ex := fun r => match r with | .inl r => .ret | .inr r => .exit 0, otl := fun r => match r with | .inl r => [.junk, .junk, .junk, .junk, .junk, .junk, .junk, .junk, .own 0, .int .i64 r.1, .bool true] | .inr r => [.junk], ohl := fun r => match r with | .inl r => [some (.typed 132 .body r.2)] | .inr r => [] }
def spec_HalvedBodies_loop0_ext : St → Option ((List Body × Nat × Nat × Nat) × (Int) × List Nat) := fun S => match (S.tm 0).unK, (S.tm 1).unK, (S.tm 2).unK, (S.tm 3).unK, (S.tm 11).unK with
  | .vslc 1 .body q0, .flt .f32 q1, .flt .f32 q2, .flt .f32 q3, .int .i64 q4 => some ((q0, q1, q2, q3), q4, [])
  | _, _, _, _, _ => none
def spec_HalvedBodies_loop0_post (p : List Body × Nat × Nat × Nat) (r : (Int × List Body) ⊕ (Unit)) : DT (Ex × St) := .ask (isL r) (.leaf (.ret, LSt [.junk, .junk, .junk, .junk, .junk, .junk, .junk, .junk, .own 0, .int .i64 ((leftD r).1), .bool true] [some (.typed 132 .body ((leftD r).2))])) (.leaf (.exit 0, LSt [.junk] []))
def spec_HalvedBodies_loop0 (p : List Body × Nat × Nat × Nat) (s : Int) : (Int × List Body) ⊕ (Unit) := loopVal (spec_HalvedBodies_loop0_step p) s
def spec_HalvedBodies_loop0_ends (p : List Body × Nat × Nat × Nat) (s : Int) : Bool := loopEnds (spec_HalvedBodies_loop0_step p) s
def spec_HalvedBodies_loop0_F : LoopF := loopF spec_HalvedBodies_loop0_step spec_HalvedBodies_loop0_ext spec_HalvedBodies_loop0_post
theorem spec_HalvedBodies_loop0_hext : ∀ S p s fl, spec_HalvedBodies_loop0_ext S = some (p, s, fl) → Norm S fl ((spec_HalvedBodies_loop0_L p).tl s) ((spec_HalvedBodies_loop0_L p).hl s) (spec_HalvedBodies_loop0_L p).gl := by
  intro S p s fl h
  unfold spec_HalvedBodies_loop0_ext at h
  (repeat' split at h) <;> first
    | (cases h; constructor <;> simp_all [spec_HalvedBodies_loop0_L, keepT, keepH, rens, renH, PV.ren, Blk.ren, fOf, lget, nodup, natIn, lenEq, gtm, PV.unK])
    | cases h
theorem spec_HalvedBodies_loop0_hpost : ∀ p r e S', (spec_HalvedBodies_loop0_post p r).get = some (e, S') → e = (spec_HalvedBodies_loop0_L p).ex r ∧ S' = LSt ((spec_HalvedBodies_loop0_L p).otl r) ((spec_HalvedBodies_loop0_L p).ohl r) ((spec_HalvedBodies_loop0_L p).ogl r) := by
  intro p r e S' h
  unfold spec_HalvedBodies_loop0_post at h
  cases r <;> (simp only [isL, DT.get, Option.some.injEq, Prod.mk.injEq] at h; exact ⟨h.1.symm, h.2.symm⟩)

def spec_HalvedBodies_loops : Nat → Option LoopF := loopTab [(4, spec_HalvedBodies_loop0_F)]
set_option maxRecDepth 100000 in
theorem spec_HalvedBodies_l0 : LoopOK Try.prog ⟨gam [(117, spec_l02Can_c), (101, spec_l02Least_c), (126, spec_l02Run_c), (130, spec_l02Near_c)], tab, 66, spec_HalvedBodies_loops⟩ (lp Try.f51 0) :=
  loopOK_some (F := spec_HalvedBodies_loop0_F) (by kernel_rfl) (loopF_ok (E := ⟨gam [(117, spec_l02Can_c), (101, spec_l02Least_c), (126, spec_l02Run_c), (130, spec_l02Near_c)], tab, 66, spec_HalvedBodies_loops⟩) ⟨gam_cons spec_l02Can_ok (gam_cons spec_l02Least_ok (gam_cons spec_l02Run_ok (gam_cons spec_l02Near_ok (gam_nil)))), tab_ok, by kernel_rfl⟩ (fuel := 100000) (loopsOK_list (l := []) (by kernel_rfl) trivial) (L := spec_HalvedBodies_loop0_L) (fun p s => by unfold AgreeL; exact ⟨by kernel_rfl, by kernel_rfl⟩) (fun _ r h => by cases r <;> exact Ex.noConfusion h) spec_HalvedBodies_loop0_hext spec_HalvedBodies_loop0_hpost)
/-- loop.example/g01284/spec.HalvedBodies -/
def spec_HalvedBodies_tree (a0 : List Body) (a1 : Nat) (a2 : Nat) (a3 : Nat) : DT ((Int) ⊕ (List Body × Int)) :=
  .need ((spec_l02Can_need a0 a1 a2)) (
  let x0 := spec_l02Can a0 a1 a2;
  .ask (!x0)
  (
   .leaf (.inl 0))
  (
   let x1 := spec_l02Least a3;
   .ask (!x1)
   (
    .leaf (.inl 0))
   (
    .need ((spec_HalvedBodies_loop0_ends (a0, a1, a2, a3) 1)) (
    let x2 := spec_HalvedBodies_loop0 (a0, a1, a2, a3) 1;
    .ask ((isL x2))
    (
     .leaf (.inr ((leftD x2).2, (leftD x2).1)))
    (
     .leaf (.inl 0))))))
def spec_HalvedBodies (a0 : List Body) (a1 : Nat) (a2 : Nat) (a3 : Nat) : (Int) ⊕ (List Body × Int) := (spec_HalvedBodies_tree a0 a1 a2 a3).val
def spec_HalvedBodies_need (a0 : List Body) (a1 : Nat) (a2 : Nat) (a3 : Nat) : Bool := (spec_HalvedBodies_tree a0 a1 a2 a3).ok
def spec_HalvedBodies_mk0 (p : Int) : Ret := ⟨.tup [.nils, .int .i64 p, .bool false], []⟩
def spec_HalvedBodies_mk1 (p : List Body × Int) : Ret := ⟨.tup [.own 0, .int .i64 p.2, .bool true], [.typed 132 .body p.1]⟩
def spec_HalvedBodies_mk : (Int) ⊕ (List Body × Int) → Ret := fun v => match v with
  | (.inl p) => spec_HalvedBodies_mk0 p
  | (.inr p) => spec_HalvedBodies_mk1 p
def spec_HalvedBodies_forms (v : (Int) ⊕ (List Body × Int)) : DT Ret := .ask (isL v) (.leaf (spec_HalvedBodies_mk0 (leftD v))) (.leaf (spec_HalvedBodies_mk1 (rightD v)))
theorem spec_HalvedBodies_forms_get : ∀ v, (spec_HalvedBodies_forms v).get = some (spec_HalvedBodies_mk v) := by
  intro v
  rcases v with v | v <;> rfl
def spec_HalvedBodies_c0 : Con := fun args => match args with
  | [.vslc 1 .body a0, .flt .f32 a1, .flt .f32 a2, .flt .f32 a3] => some (.need (spec_HalvedBodies_need a0 a1 a2 a3) (spec_HalvedBodies_forms (spec_HalvedBodies a0 a1 a2 a3)))
  | _ => none
set_option maxRecDepth 100000 in
theorem spec_HalvedBodies_ok0 : FunOK Try.prog 51 spec_HalvedBodies_c0.fn := by
  refine con_ok (Γ := gam [(117, spec_l02Can_c), (101, spec_l02Least_c), (126, spec_l02Run_c), (130, spec_l02Near_c)]) (gam_cons spec_l02Can_ok (gam_cons spec_l02Least_ok (gam_cons spec_l02Run_ok (gam_cons spec_l02Near_ok (gam_nil))))) tab_ok (by kernel_rfl) Try.func51 (by kernel_rfl) (by kernel_rfl) Try.ntmps51 Try.results51 (loops := spec_HalvedBodies_loops) (loopsOK_list (l := [lp Try.f51 0]) (by kernel_rfl) ⟨spec_HalvedBodies_l0, trivial⟩) 100000 fun args t h => ?_
  unfold spec_HalvedBodies_c0 at h
  split at h
  · rename_i a0 a1 a2 a3
    cases h
    exact ⟨rfl, agree_forms (mk := spec_HalvedBodies_mk) (t := spec_HalvedBodies_tree a0 a1 a2 a3) (by unfold Agree; kernel_rfl) (fun h => h) (spec_HalvedBodies_forms_get _)⟩
  · cases h
def spec_HalvedBodies_c : Con := fun args => spec_HalvedBodies_c0 (norms 0 [.slc .body, .none, .none, .none] args)
set_option maxRecDepth 100000 in
theorem spec_HalvedBodies_ok : FunOK Try.prog 51 spec_HalvedBodies_c.fn := con_norm [.slc .body, .none, .none, .none] spec_HalvedBodies_ok0

/-- a loop of impl_areNear -/
def impl_areNear_loop0_step (p : List Body × List Body × Nat × Int) (s : Int) : Round (Int) ((Unit) ⊕ (Unit)) :=
  let x0 := decide (s < p.2.2.2);
  .ask x0
  (
   .need ((decide (0 ≤ s) && decide (s < ((List.length p.1 : Nat) : Int)))) (
   let x1 := List.getD p.1 (Int.toNat s) default;
   .need ((decide (0 ≤ s) && decide (s < ((List.length p.2.1 : Nat) : Int)))) (
   let x2 := List.getD p.2.1 (Int.toNat s) default;
   let x3 := impl_LessVectors (⟨x1.At.X, x1.At.Y, x1.At.Z⟩ : Vec) (⟨x2.At.X, x2.At.Y, x2.At.Z⟩ : Vec);
   .need ((impl_SizeOfVector_need (⟨x3.X, x3.Y, x3.Z⟩ : Vec))) (
   let x4 := impl_SizeOfVector (⟨x3.X, x3.Y, x3.Z⟩ : Vec);
   let x5 := fgt .f32 x4 p.2.2.1;
   .ask x5
   (
    .leaf (.inr (.inl ()), []))
   (
    let x6 := IntKind.wrap .i64 (s + 1);
    .leaf (.inl x6, []))))))
  (
   .leaf (.inr (.inr ()), []))
def impl_areNear_loop0_L (p : List Body × List Body × Nat × Int) : LoopS (Int) ((Unit) ⊕ (Unit)) := { tl := fun s => [.vslc 1 .body p.1, .vslc 2 .body p.2.1, .flt .f32 p.2.2.1, .junk, .junk, .junk, .junk, .junk, .junk, .int .i64 p.2.2.2, .int .i64 s], hl := fun s => [], ex := fun r => match r with | .inl r => .ret | .inr r => .exit 0, otl := fun r => match r with | .inl r => [.junk, .junk, .junk, .junk, .junk, .junk, .bool false] | .inr r => [.junk], ohl := fun r => match r with | .inl r => [] | .inr r => [] }
def impl_areNear_loop0_ext : St → Option ((List Body × List Body × Nat × Int) × (Int) × List Nat) := fun S => match (S.tm 0).unK, (S.tm 1).unK, (S.tm 2).unK, (S.tm 9).unK, (S.tm 10).unK with
  | .vslc 1 .body q0, .vslc 2 .body q1, .flt .f32 q2, .int .i64 q3, .int .i64 q4 => some ((q0, q1, q2, q3), q4, [])
  | _, _, _, _, _ => none
def impl_areNear_loop0_post (p : List Body × List Body × Nat × Int) (r : (Unit) ⊕ (Unit)) : DT (Ex × St) := .ask (isL r) (.leaf (.ret, LSt [.junk, .junk, .junk, .junk, .junk, .junk, .bool false] [])) (.leaf (.exit 0, LSt [.junk] []))
def impl_areNear_loop0 (p : List Body × List Body × Nat × Int) (s : Int) : (Unit) ⊕ (Unit) := loopVal (impl_areNear_loop0_step p) s
def impl_areNear_loop0_ends (p : List Body × List Body × Nat × Int) (s : Int) : Bool := loopEnds (impl_areNear_loop0_step p) s
def impl_areNear_loop0_F : LoopF := loopF impl_areNear_loop0_step impl_areNear_loop0_ext impl_areNear_loop0_post
theorem impl_areNear_loop0_hext : ∀ S p s fl, impl_areNear_loop0_ext S = some (p, s, fl) → Norm S fl ((impl_areNear_loop0_L p).tl s) ((impl_areNear_loop0_L p).hl s) (impl_areNear_loop0_L p).gl := by
  intro S p s fl h
  unfold impl_areNear_loop0_ext at h
  (repeat' split at h) <;> first
    | (cases h; constructor <;> simp_all [impl_areNear_loop0_L, keepT, keepH, rens, renH, PV.ren, Blk.ren, fOf, lget, nodup, natIn, lenEq, gtm, PV.unK])
    | cases h
theorem impl_areNear_loop0_hpost : ∀ p r e S', (impl_areNear_loop0_post p r).get = some (e, S') → e = (impl_areNear_loop0_L p).ex r ∧ S' = LSt ((impl_areNear_loop0_L p).otl r) ((impl_areNear_loop0_L p).ohl r) ((impl_areNear_loop0_L p).ogl r) := by
  intro p r e S' h
  unfold impl_areNear_loop0_post at h
  cases r <;> (simp only [isL, DT.get, Option.some.injEq, Prod.mk.injEq] at h; exact ⟨h.1.symm, h.2.symm⟩)

def impl_areNear_loops : Nat → Option LoopF := loopTab [(2, impl_areNear_loop0_F)]
set_option maxRecDepth 100000 in
theorem impl_areNear_l0 : LoopOK Try.prog ⟨gam [(192, impl_LessVectors_c), (97, impl_SizeOfVector_c)], tab, 28, impl_areNear_loops⟩ (lp Try.f131 0) :=
  loopOK_some (F := impl_areNear_loop0_F) (by kernel_rfl) (loopF_ok (E := ⟨gam [(192, impl_LessVectors_c), (97, impl_SizeOfVector_c)], tab, 28, impl_areNear_loops⟩) ⟨gam_cons impl_LessVectors_ok (gam_cons impl_SizeOfVector_ok (gam_nil)), tab_ok, by kernel_rfl⟩ (fuel := 100000) (loopsOK_list (l := []) (by kernel_rfl) trivial) (L := impl_areNear_loop0_L) (fun p s => by unfold AgreeL; exact ⟨by kernel_rfl, by kernel_rfl⟩) (fun _ r h => by cases r <;> exact Ex.noConfusion h) impl_areNear_loop0_hext impl_areNear_loop0_hpost)
/-- loop.example/g01284/impl.areNear -/
def impl_areNear_tree (a0 : List Body) (a1 : List Body) (a2 : Nat) : DT (Bool) :=
  let x0 := ((List.length a0 : Nat) : Int);
  .need ((impl_areNear_loop0_ends (a0, a1, a2, x0) 0)) (
  let x1 := impl_areNear_loop0 (a0, a1, a2, x0) 0;
  .ask ((isL x1))
  (
   .leaf false)
  (
   .leaf true))
def impl_areNear (a0 : List Body) (a1 : List Body) (a2 : Nat) : Bool := (impl_areNear_tree a0 a1 a2).val
def impl_areNear_need (a0 : List Body) (a1 : List Body) (a2 : Nat) : Bool := (impl_areNear_tree a0 a1 a2).ok
def impl_areNear_mk (p : Bool) : Ret := ⟨.bool p, []⟩
def impl_areNear_c0 : Con := fun args => match args with
  | [.vslc 1 .body a0, .vslc 2 .body a1, .flt .f32 a2] => some (.need (impl_areNear_need a0 a1 a2) (.leaf (impl_areNear_mk (impl_areNear a0 a1 a2))))
  | _ => none
set_option maxRecDepth 100000 in
theorem impl_areNear_ok0 : FunOK Try.prog 131 impl_areNear_c0.fn := by
  refine con_ok (Γ := gam [(192, impl_LessVectors_c), (97, impl_SizeOfVector_c)]) (gam_cons impl_LessVectors_ok (gam_cons impl_SizeOfVector_ok (gam_nil))) tab_ok (by kernel_rfl) Try.func131 (by kernel_rfl) (by kernel_rfl) Try.ntmps131 Try.results131 (loops := impl_areNear_loops) (loopsOK_list (l := [lp Try.f131 0]) (by kernel_rfl) ⟨impl_areNear_l0, trivial⟩) 100000 fun args t h => ?_
  unfold impl_areNear_c0 at h
  split at h
  · rename_i a0 a1 a2
    cases h
    exact ⟨rfl, agree_need (mk := impl_areNear_mk) (t := impl_areNear_tree a0 a1 a2) (by unfold Agree; kernel_rfl)⟩
  · cases h
def impl_areNear_c : Con := fun args => impl_areNear_c0 (norms 0 [.slc .body, .slc .body, .none] args)
set_option maxRecDepth 100000 in
theorem impl_areNear_ok : FunOK Try.prog 131 impl_areNear_c.fn := con_norm [.slc .body, .slc .body, .none] impl_areNear_ok0

/-- a loop of impl_HalvedBodies -/
def impl_HalvedBodies_loop0_step (p : List Body × Nat × Nat × Nat) (s : Int) : Round (Int) ((Int × List Body) ⊕ (Unit)) :=
  let x0 := decide (s < 32);
  .ask x0
  (
   let x1 := fofInt .f32 s;
   let x2 := fdiv .f32 p.2.2.1 x1;
   .need ((impl_RunBodies_need p.1 p.2.1 x2 s)) (
   let x3 := impl_RunBodies p.1 p.2.1 x2 s;
   .ask ((isL x3))
   (
    let x4 := IntKind.wrap .i64 (2 * s);
    let x5 := fofInt .f32 x4;
    let x6 := fdiv .f32 p.2.2.1 x5;
    let x7 := IntKind.wrap .i64 (2 * s);
    .need ((impl_RunBodies_need p.1 p.2.1 x6 x7)) (
    let x8 := impl_RunBodies p.1 p.2.1 x6 x7;
    .ask ((isL x8))
    (
     .skip (
     .skip (
     let x9 := IntKind.wrap .i64 (s * 2);
     .leaf (.inl x9, []))))
    (
     .skip (
     .skip (
     let x9 := IntKind.wrap .i64 (s * 2);
     .leaf (.inl x9, []))))))
   (
    let x4 := IntKind.wrap .i64 (2 * s);
    let x5 := fofInt .f32 x4;
    let x6 := fdiv .f32 p.2.2.1 x5;
    let x7 := IntKind.wrap .i64 (2 * s);
    .need ((impl_RunBodies_need p.1 p.2.1 x6 x7)) (
    let x8 := impl_RunBodies p.1 p.2.1 x6 x7;
    .ask ((isL x8))
    (
     .skip (
     .skip (
     .skip (
     .skip (
     .skip (
     .skip (
     .skip (
     let x9 := IntKind.wrap .i64 (s * 2);
     .leaf (.inl x9, [])))))))))
    (
     .skip (
     .skip (
     .skip (
     .skip (
     .skip (
     .skip (
     .need ((impl_areNear_need ((rightD x3)) ((rightD x8)) p.2.2.2)) (
     let x9 := impl_areNear ((rightD x3)) ((rightD x8)) p.2.2.2;
     .skip (
     .ask x9
     (
      .leaf (.inr (.inl ((s, (rightD x8)))), [192]))
     (
      let x10 := IntKind.wrap .i64 (s * 2);
      .leaf (.inl x10, [])))))))))))))))
  (
   .leaf (.inr (.inr ()), []))
def impl_HalvedBodies_loop0_L (p : List Body × Nat × Nat × Nat) : LoopS (Int) ((Int × List Body) ⊕ (Unit)) := { tl := fun s => [.vslc 1 .body p.1, .flt .f32 p.2.1, .flt .f32 p.2.2.1, .flt .f32 p.2.2.2, .junk, .junk, .junk, .junk, .junk, .junk, .junk, .int .i64 s], hl := fun s => [], ex := fun r => match r with | .inl r => .ret | .inr r => .exit 0, otl := fun r => match r with | .inl r => [.junk, .junk, .junk, .junk, .junk, .junk, .junk, .junk, .own 0, .int .i64 r.1, .bool true] | .inr r => [.junk], ohl := fun r => match r with | .inl r => [some (.typed 132 .body r.2)] | .inr r => [] }
def impl_HalvedBodies_loop0_ext : St → Option ((List Body × Nat × Nat × Nat) × (Int) × List Nat) := fun S => match (S.tm 0).unK, (S.tm 1).unK, (S.tm 2).unK, (S.tm 3).unK, (S.tm 11).unK with
  | .vslc 1 .body q0, .flt .f32 q1, .flt .f32 q2, .flt .f32 q3, .int .i64 q4 => some ((q0, q1, q2, q3), q4, [])
  | _, _, _, _, _ => none
def impl_HalvedBodies_loop0_post (p : List Body × Nat × Nat × Nat) (r : (Int × List Body) ⊕ (Unit)) : DT (Ex × St) := .ask (isL r) (.leaf (.ret, LSt [.junk, .junk, .junk, .junk, .junk, .junk, .junk, .junk, .own 0, .int .i64 ((leftD r).1), .bool true] [some (.typed 132 .body ((leftD r).2))])) (.leaf (.exit 0, LSt [.junk] []))
def impl_HalvedBodies_loop0 (p : List Body × Nat × Nat × Nat) (s : Int) : (Int × List Body) ⊕ (Unit) := loopVal (impl_HalvedBodies_loop0_step p) s
def impl_HalvedBodies_loop0_ends (p : List Body × Nat × Nat × Nat) (s : Int) : Bool := loopEnds (impl_HalvedBodies_loop0_step p) s
def impl_HalvedBodies_loop0_F : LoopF := loopF impl_HalvedBodies_loop0_step impl_HalvedBodies_loop0_ext impl_HalvedBodies_loop0_post
theorem impl_HalvedBodies_loop0_hext : ∀ S p s fl, impl_HalvedBodies_loop0_ext S = some (p, s, fl) → Norm S fl ((impl_HalvedBodies_loop0_L p).tl s) ((impl_HalvedBodies_loop0_L p).hl s) (impl_HalvedBodies_loop0_L p).gl := by
  intro S p s fl h
  unfold impl_HalvedBodies_loop0_ext at h
  (repeat' split at h) <;> first
    | (cases h; constructor <;> simp_all [impl_HalvedBodies_loop0_L, keepT, keepH, rens, renH, PV.ren, Blk.ren, fOf, lget, nodup, natIn, lenEq, gtm, PV.unK])
    | cases h
theorem impl_HalvedBodies_loop0_hpost : ∀ p r e S', (impl_HalvedBodies_loop0_post p r).get = some (e, S') → e = (impl_HalvedBodies_loop0_L p).ex r ∧ S' = LSt ((impl_HalvedBodies_loop0_L p).otl r) ((impl_HalvedBodies_loop0_L p).ohl r) ((impl_HalvedBodies_loop0_L p).ogl r) := by
  intro p r e S' h
  unfold impl_HalvedBodies_loop0_post at h
  cases r <;> (simp only [isL, DT.get, Option.some.injEq, Prod.mk.injEq] at h; exact ⟨h.1.symm, h.2.symm⟩)

def impl_HalvedBodies_loops : Nat → Option LoopF := loopTab [(4, impl_HalvedBodies_loop0_F)]
set_option maxRecDepth 100000 in
theorem impl_HalvedBodies_l0 : LoopOK Try.prog ⟨gam [(123, impl_AreBodies_c), (124, impl_isCore_c), (113, impl_areFinite_c), (48, impl_RunBodies_c), (131, impl_areNear_c)], tab, 75, impl_HalvedBodies_loops⟩ (lp Try.f52 0) :=
  loopOK_some (F := impl_HalvedBodies_loop0_F) (by kernel_rfl) (loopF_ok (E := ⟨gam [(123, impl_AreBodies_c), (124, impl_isCore_c), (113, impl_areFinite_c), (48, impl_RunBodies_c), (131, impl_areNear_c)], tab, 75, impl_HalvedBodies_loops⟩) ⟨gam_cons impl_AreBodies_ok (gam_cons impl_isCore_ok (gam_cons impl_areFinite_ok (gam_cons impl_RunBodies_ok (gam_cons impl_areNear_ok (gam_nil))))), tab_ok, by kernel_rfl⟩ (fuel := 100000) (loopsOK_list (l := []) (by kernel_rfl) trivial) (L := impl_HalvedBodies_loop0_L) (fun p s => by unfold AgreeL; exact ⟨by kernel_rfl, by kernel_rfl⟩) (fun _ r h => by cases r <;> exact Ex.noConfusion h) impl_HalvedBodies_loop0_hext impl_HalvedBodies_loop0_hpost)
/-- loop.example/g01284/impl.HalvedBodies -/
def impl_HalvedBodies_tree (a0 : List Body) (a1 : Nat) (a2 : Nat) (a3 : Nat) : DT ((Int) ⊕ (List Body × Int)) :=
  .need ((impl_AreBodies_need a0)) (
  let x0 := impl_AreBodies a0;
  .ask (!x0)
  (
   .leaf (.inl 0))
  (
   .need ((impl_isCore_need a1)) (
   let x1 := impl_isCore a1;
   .ask (!x1)
   (
    .leaf (.inl 0))
   (
    .need ((impl_areFinite_need ([a2, a3]))) (
    let x2 := impl_areFinite ([a2, a3]);
    .ask (!x2)
    (
     .leaf (.inl 0))
    (
     let x3 := flt .f32 a3 0;
     .ask x3
     (
      .leaf (.inl 0))
     (
      .need ((impl_HalvedBodies_loop0_ends (a0, a1, a2, a3) 1)) (
      let x4 := impl_HalvedBodies_loop0 (a0, a1, a2, a3) 1;
      .ask ((isL x4))
      (
       .leaf (.inr ((leftD x4).2, (leftD x4).1)))
      (
       .leaf (.inl 0))))))))))
def impl_HalvedBodies (a0 : List Body) (a1 : Nat) (a2 : Nat) (a3 : Nat) : (Int) ⊕ (List Body × Int) := (impl_HalvedBodies_tree a0 a1 a2 a3).val
def impl_HalvedBodies_need (a0 : List Body) (a1 : Nat) (a2 : Nat) (a3 : Nat) : Bool := (impl_HalvedBodies_tree a0 a1 a2 a3).ok
def impl_HalvedBodies_mk0 (p : Int) : Ret := ⟨.tup [.nils, .int .i64 p, .bool false], []⟩
def impl_HalvedBodies_mk1 (p : List Body × Int) : Ret := ⟨.tup [.own 0, .int .i64 p.2, .bool true], [.typed 132 .body p.1]⟩
def impl_HalvedBodies_mk : (Int) ⊕ (List Body × Int) → Ret := fun v => match v with
  | (.inl p) => impl_HalvedBodies_mk0 p
  | (.inr p) => impl_HalvedBodies_mk1 p
def impl_HalvedBodies_forms (v : (Int) ⊕ (List Body × Int)) : DT Ret := .ask (isL v) (.leaf (impl_HalvedBodies_mk0 (leftD v))) (.leaf (impl_HalvedBodies_mk1 (rightD v)))
theorem impl_HalvedBodies_forms_get : ∀ v, (impl_HalvedBodies_forms v).get = some (impl_HalvedBodies_mk v) := by
  intro v
  rcases v with v | v <;> rfl
def impl_HalvedBodies_c0 : Con := fun args => match args with
  | [.vslc 1 .body a0, .flt .f32 a1, .flt .f32 a2, .flt .f32 a3] => some (.need (impl_HalvedBodies_need a0 a1 a2 a3) (impl_HalvedBodies_forms (impl_HalvedBodies a0 a1 a2 a3)))
  | _ => none
set_option maxRecDepth 100000 in
theorem impl_HalvedBodies_ok0 : FunOK Try.prog 52 impl_HalvedBodies_c0.fn := by
  refine con_ok (Γ := gam [(123, impl_AreBodies_c), (124, impl_isCore_c), (113, impl_areFinite_c), (48, impl_RunBodies_c), (131, impl_areNear_c)]) (gam_cons impl_AreBodies_ok (gam_cons impl_isCore_ok (gam_cons impl_areFinite_ok (gam_cons impl_RunBodies_ok (gam_cons impl_areNear_ok (gam_nil)))))) tab_ok (by kernel_rfl) Try.func52 (by kernel_rfl) (by kernel_rfl) Try.ntmps52 Try.results52 (loops := impl_HalvedBodies_loops) (loopsOK_list (l := [lp Try.f52 0]) (by kernel_rfl) ⟨impl_HalvedBodies_l0, trivial⟩) 100000 fun args t h => ?_
  unfold impl_HalvedBodies_c0 at h
  split at h
  · rename_i a0 a1 a2 a3
    cases h
    exact ⟨rfl, agree_forms (mk := impl_HalvedBodies_mk) (t := impl_HalvedBodies_tree a0 a1 a2 a3) (by unfold Agree; kernel_rfl) (fun h => h) (impl_HalvedBodies_forms_get _)⟩
  · cases h
def impl_HalvedBodies_c : Con := fun args => impl_HalvedBodies_c0 (norms 0 [.slc .body, .none, .none, .none] args)
set_option maxRecDepth 100000 in
theorem impl_HalvedBodies_ok : FunOK Try.prog 52 impl_HalvedBodies_c.fn := con_norm [.slc .body, .none, .none, .none] impl_HalvedBodies_ok0

/-- loop.example/g01284/laws.FnExactHalvedBodies -/
def laws_FnExactHalvedBodies_tree (a0 : List Body) (a1 : Nat) (a2 : Nat) (a3 : Nat) : DT (Bool) :=
  let x0 := laws_szBodyS a0 1048576;
  let x1 := decide (x0 < 0);
  .ask x1
  (
   .leaf true)
  (
   .need ((laws_toBodyS_need a0)) (
   let x2 := laws_toBodyS a0;
   .need ((spec_HalvedBodies_need x2 a1 a2 a3)) (
   let x3 := spec_HalvedBodies x2 a1 a2 a3;
   .ask ((isL x3))
   (
    .need ((laws_toBodyS_need a0)) (
    let x4 := laws_toBodyS a0;
    .need ((impl_HalvedBodies_need x4 a1 a2 a3)) (
    let x5 := impl_HalvedBodies x4 a1 a2 a3;
    .ask ((isL x5))
    (
     .need ((laws_eqBodyS_need [] [])) (
     let x6 := laws_eqBodyS [] [];
     .ask (!x6)
     (
      .leaf false)
     (
      let x7 := ((leftD x5) != (leftD x3));
      .ask x7
      (
       .leaf false)
      (
       .skip (
       .need ((laws_toBodyS_need a0)) (
       let x8 := laws_toBodyS a0;
       .need ((laws_eqBodyS_need x4 x8)) (
       let x9 := laws_eqBodyS x4 x8;
       .ask (!x9)
       (
        .leaf false)
       (
        .need ((laws_markBodyS_need x4 1)) (
        let x10 := laws_markBodyS x4 1;
        let x11 := decide (x10.1 < 0);
        .ask x11
        (
         .leaf false)
        (
         .need ((laws_eqBodyS_need [] [])) (
         let x12 := laws_eqBodyS [] [];
         .ask (!x12)
         (
          .leaf false)
         (
          let x13 := ((leftD x5) != (leftD x3));
          .ask x13
          (
           .leaf false)
          (
           .skip (
           .need ((laws_markBodyS_need [] 1)) (
           let x14 := laws_markBodyS [] 1;
           .need ((laws_heldBodyS_need [] 1)) (
           let x15 := laws_heldBodyS [] 1;
           let x16 := decide (x15 < 0);
           .ask x16
           (
            .leaf false)
           (
            let x17 := (x15 != x14.1);
            .ask x17
            (
             .leaf false)
            (
             .need ((laws_toBodyS_need a0)) (
             let x18 := laws_toBodyS a0;
             .need ((impl_HalvedBodies_need x18 a1 a2 a3)) (
             let x19 := impl_HalvedBodies x18 a1 a2 a3;
             .ask ((isL x19))
             (
              .need ((laws_eqBodyS_need [] [])) (
              let x20 := laws_eqBodyS [] [];
              .ask (!x20)
              (
               .leaf false)
              (
               let x21 := ((leftD x19) != (leftD x3));
               .ask x21
               (
                .leaf false)
               (
                .skip (
                .need ((laws_heldBodyS_need [] 1)) (
                let x22 := laws_heldBodyS [] 1;
                let x23 := decide (x22 < 0);
                .ask x23
                (
                 .leaf false)
                (
                 let x24 := (x22 != x14.1);
                 .ask x24
                 (
                  .leaf false)
                 (
                  .leaf true))))))))
             (
              .need ((laws_eqBodyS_need ((rightD x19).1) [])) (
              let x20 := laws_eqBodyS ((rightD x19).1) [];
              .ask (!x20)
              (
               .leaf false)
              (
               let x21 := ((rightD x19).2 != (leftD x3));
               .ask x21
               (
                .leaf false)
               (
                .skip (
                .leaf false)))))))))))))))))))))))))
    (
     .need ((laws_eqBodyS_need ((rightD x5).1) [])) (
     let x6 := laws_eqBodyS ((rightD x5).1) [];
     .ask (!x6)
     (
      .leaf false)
     (
      let x7 := ((rightD x5).2 != (leftD x3));
      .ask x7
      (
       .leaf false)
      (
       .skip (
       .leaf false))))))))
   (
    .need ((laws_toBodyS_need a0)) (
    let x4 := laws_toBodyS a0;
    .need ((impl_HalvedBodies_need x4 a1 a2 a3)) (
    let x5 := impl_HalvedBodies x4 a1 a2 a3;
    .ask ((isL x5))
    (
     .need ((laws_eqBodyS_need [] ((rightD x3).1))) (
     let x6 := laws_eqBodyS [] ((rightD x3).1);
     .ask (!x6)
     (
      .leaf false)
     (
      let x7 := ((leftD x5) != (rightD x3).2);
      .ask x7
      (
       .leaf false)
      (
       .skip (
       .leaf false)))))
    (
     .need ((laws_eqBodyS_need ((rightD x5).1) ((rightD x3).1))) (
     let x6 := laws_eqBodyS ((rightD x5).1) ((rightD x3).1);
     .ask (!x6)
     (
      .leaf false)
     (
      let x7 := ((rightD x5).2 != (rightD x3).2);
      .ask x7
      (
       .leaf false)
      (
       .skip (
       .need ((laws_toBodyS_need a0)) (
       let x8 := laws_toBodyS a0;
       .need ((laws_eqBodyS_need x4 x8)) (
       let x9 := laws_eqBodyS x4 x8;
       .ask (!x9)
       (
        .leaf false)
       (
        .need ((laws_markBodyS_need x4 1)) (
        let x10 := laws_markBodyS x4 1;
        let x11 := decide (x10.1 < 0);
        .ask x11
        (
         .leaf false)
        (
         .need ((laws_eqBodyS_need ((rightD x5).1) ((rightD x3).1))) (
         let x12 := laws_eqBodyS ((rightD x5).1) ((rightD x3).1);
         .ask (!x12)
         (
          .leaf false)
         (
          let x13 := ((rightD x5).2 != (rightD x3).2);
          .ask x13
          (
           .leaf false)
          (
           .skip (
           .need ((laws_markBodyS_need ((rightD x5).1) 1)) (
           let x14 := laws_markBodyS ((rightD x5).1) 1;
           .need ((laws_heldBodyS_need x14.2 1)) (
           let x15 := laws_heldBodyS x14.2 1;
           let x16 := decide (x15 < 0);
           .ask x16
           (
            .leaf false)
           (
            let x17 := (x15 != x14.1);
            .ask x17
            (
             .leaf false)
            (
             .need ((laws_toBodyS_need a0)) (
             let x18 := laws_toBodyS a0;
             .need ((impl_HalvedBodies_need x18 a1 a2 a3)) (
             let x19 := impl_HalvedBodies x18 a1 a2 a3;
             .ask ((isL x19))
             (
              .need ((laws_eqBodyS_need [] ((rightD x3).1))) (
              let x20 := laws_eqBodyS [] ((rightD x3).1);
              .ask (!x20)
              (
               .leaf false)
              (
               let x21 := ((leftD x19) != (rightD x3).2);
               .ask x21
               (
                .leaf false)
               (
                .skip (
                .leaf false)))))
             (
              .need ((laws_eqBodyS_need ((rightD x19).1) ((rightD x3).1))) (
              let x20 := laws_eqBodyS ((rightD x19).1) ((rightD x3).1);
              .ask (!x20)
              (
               .leaf false)
              (
               let x21 := ((rightD x19).2 != (rightD x3).2);
               .ask x21
               (
                .leaf false)
               (
                .skip (
                .need ((laws_heldBodyS_need x14.2 1)) (
                let x22 := laws_heldBodyS x14.2 1;
                let x23 := decide (x22 < 0);
                .ask x23
                (
                 .leaf false)
                (
                 let x24 := (x22 != x14.1);
                 .ask x24
                 (
                  .leaf false)
                 (
                  .leaf true))))))))))))))))))))))))))))))))))
def laws_FnExactHalvedBodies (a0 : List Body) (a1 : Nat) (a2 : Nat) (a3 : Nat) : Bool := (laws_FnExactHalvedBodies_tree a0 a1 a2 a3).val
def laws_FnExactHalvedBodies_need (a0 : List Body) (a1 : Nat) (a2 : Nat) (a3 : Nat) : Bool := (laws_FnExactHalvedBodies_tree a0 a1 a2 a3).ok
def laws_FnExactHalvedBodies_mk (p : Bool) : Ret := ⟨.bool p, []⟩
def laws_FnExactHalvedBodies_c0 : Con := fun args => match args with
  | [.vslc 1 .body a0, .flt .f32 a1, .flt .f32 a2, .flt .f32 a3] => some (.need (laws_FnExactHalvedBodies_need a0 a1 a2 a3) (.leaf (laws_FnExactHalvedBodies_mk (laws_FnExactHalvedBodies a0 a1 a2 a3))))
  | _ => none
set_option maxRecDepth 100000 in
theorem laws_FnExactHalvedBodies_ok0 : FunOK Try.prog 13 laws_FnExactHalvedBodies_c0.fn := by
  refine con_ok (Γ := gam [(41, laws_szBodyS_c), (43, laws_toBodyS_c), (51, spec_HalvedBodies_c), (52, impl_HalvedBodies_c), (31, laws_eqBodyS_c), (33, laws_heldBodyS_c)] [(32, laws_markBodyS_M)]) (gam_cons laws_szBodyS_ok (gam_cons laws_toBodyS_ok (gam_cons spec_HalvedBodies_ok (gam_cons impl_HalvedBodies_ok (gam_cons laws_eqBodyS_ok (gam_cons laws_heldBodyS_ok (gam_mut laws_markBodyS_ok (gam_nil)))))))) tab_ok (by kernel_rfl) Try.func13 (by kernel_rfl) (by kernel_rfl) Try.ntmps13 Try.results13 (loopsOK_none rfl _) 100000 fun args t h => ?_
  unfold laws_FnExactHalvedBodies_c0 at h
  split at h
  · rename_i a0 a1 a2 a3
    cases h
    exact ⟨rfl, agree_need (mk := laws_FnExactHalvedBodies_mk) (t := laws_FnExactHalvedBodies_tree a0 a1 a2 a3) (by unfold Agree; kernel_rfl)⟩
  · cases h
def laws_FnExactHalvedBodies_c : Con := fun args => laws_FnExactHalvedBodies_c0 (norms 0 [.slc .body, .none, .none, .none] args)
set_option maxRecDepth 100000 in
theorem laws_FnExactHalvedBodies_ok : FunOK Try.prog 13 laws_FnExactHalvedBodies_c.fn := con_norm [.slc .body, .none, .none, .none] laws_FnExactHalvedBodies_ok0

end
end Go.Proofs.Ytodhhjcgjkfmpaa
