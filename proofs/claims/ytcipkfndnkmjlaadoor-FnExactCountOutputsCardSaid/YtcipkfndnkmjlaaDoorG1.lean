/- THE WALK, BY A PROGRAM: typed functions, and that the code is they. -/
import Derived.Test.YtcipkfndnkmjlaaDoorTab
namespace Go.Proofs.YtcipkfndnkmjlaaDoor
set_option linter.unusedVariables false
set_option linter.unusedSimpArgs false
open Go.Extern
noncomputable section

set_option maxRecDepth 100000 in
theorem internal_bytealg_CountString_ok : FunOK Tryd.prog 183 internal_bytealg_CountString_c.fn := countString_ok (run_callFunc_extern Tryd.func183 (by kernel_rfl) (by kernel_rfl) (by kernel_rfl) (by kernel_rfl))

set_option maxRecDepth 100000 in
theorem internal_bytealg_IndexByteString_ok : FunOK Tryd.prog 174 internal_bytealg_IndexByteString_c.fn := indexByteString_ok (run_callFunc_extern Tryd.func174 (by kernel_rfl) (by kernel_rfl) (by kernel_rfl) (by kernel_rfl))

/-- a loop of spec_l01Cut -/
def spec_l01Cut_loop0_step (p : (List UInt8) × Int) (s : Int × Int × List (List UInt8)) : Round (Int × Int × List (List UInt8)) (List (List UInt8)) :=
  let x0 := ((List.length p.1 : Nat) : Int);
  let x1 := decide (s.2.1 ≤ x0);
  .ask x1
  (
   let x2 := ((List.length p.1 : Nat) : Int);
   let x3 := (s.2.1 == x2);
   .ask x3
   (
    .need ((decide (0 ≤ s.2.1) && decide (s.2.1 ≤ ((List.length p.1 : Nat) : Int)))) (
    .need ((decide (0 ≤ s.1) && decide (s.1 ≤ (((Int.toNat s.2.1) : Nat) : Int)))) (
    let x4 := List.drop (Int.toNat s.1) (List.take (Int.toNat s.2.1) p.1);
    .need ((decide ((List.length s.2.2 + List.length [x4]) * 16 ≤ 140737488355328) && decide (List.length s.2.2 + List.length [x4] ≤ 9223372036854775807))) (
    let x5 := s.2.2 ++ [x4];
    let x6 := IntKind.wrap .i64 (s.2.1 + 1);
    let x7 := IntKind.wrap .i64 (s.2.1 + 1);
    .leaf (.inl (x6, x7, x5), [169])))))
   (
    .need ((decide (0 ≤ s.2.1) && decide (s.2.1 < ((List.length p.1 : Nat) : Int)))) (
    let x4 := ((List.getD (p.1 : List UInt8) (Int.toNat s.2.1) 0).toNat : Int);
    let x5 := (x4 == p.2);
    .ask x5
    (
     .need ((decide (0 ≤ s.2.1) && decide (s.2.1 ≤ ((List.length p.1 : Nat) : Int)))) (
     .need ((decide (0 ≤ s.1) && decide (s.1 ≤ (((Int.toNat s.2.1) : Nat) : Int)))) (
     let x6 := List.drop (Int.toNat s.1) (List.take (Int.toNat s.2.1) p.1);
     .need ((decide ((List.length s.2.2 + List.length [x6]) * 16 ≤ 140737488355328) && decide (List.length s.2.2 + List.length [x6] ≤ 9223372036854775807))) (
     let x7 := s.2.2 ++ [x6];
     let x8 := IntKind.wrap .i64 (s.2.1 + 1);
     let x9 := IntKind.wrap .i64 (s.2.1 + 1);
     .leaf (.inl (x8, x9, x7), [169])))))
    (
     let x6 := IntKind.wrap .i64 (s.2.1 + 1);
     .leaf (.inl (s.1, x6, s.2.2), [0])))))
  (
   .leaf (.inr s.2.2, [0]))
def spec_l01Cut_loop0_L (p : (List UInt8) × Int) : LoopS (Int × Int × List (List UInt8)) (List (List UInt8)) := { tl := fun s => [.str p.1, .int .u8 p.2, .junk, .junk, .junk, .own 0, .int .i64 s.1, .int .i64 s.2.1], hl := fun s => [some (.typed 9 .str s.2.2)], ex := fun r => .exit 0, otl := fun r => [.junk, .junk, .junk, .junk, .junk, .own 0], ohl := fun r => [some (.typed 9 .str r)] }
def spec_l01Cut_loop0_ext : St → Option (((List UInt8) × Int) × (Int × Int × List (List UInt8)) × List Nat) := fun S => match (S.tm 0).unK, (S.tm 1).unK, (S.tm 5).unK, (S.tm 6).unK, (S.tm 7).unK with
  | .str q0, .int .u8 q1, .own i0, .int .i64 q2, .int .i64 q3 => (match S.hp i0 with
    | some (.typed 9 .str q4) => some ((q0, q1), (q2, q3, q4), [i0])
    | _ => none)
  | _, _, _, _, _ => none
def spec_l01Cut_loop0_post (p : (List UInt8) × Int) (r : List (List UInt8)) : DT (Ex × St) := .leaf (.exit 0, LSt [.junk, .junk, .junk, .junk, .junk, .own 0] [some (.typed 9 .str r)])
def spec_l01Cut_loop0 (p : (List UInt8) × Int) (s : Int × Int × List (List UInt8)) : List (List UInt8) := loopVal (spec_l01Cut_loop0_step p) s
def spec_l01Cut_loop0_ends (p : (List UInt8) × Int) (s : Int × Int × List (List UInt8)) : Bool := loopEnds (spec_l01Cut_loop0_step p) s
def spec_l01Cut_loop0_F : LoopF := loopF spec_l01Cut_loop0_step spec_l01Cut_loop0_ext spec_l01Cut_loop0_post
theorem spec_l01Cut_loop0_hext : ∀ S p s fl, spec_l01Cut_loop0_ext S = some (p, s, fl) → Norm S fl ((spec_l01Cut_loop0_L p).tl s) ((spec_l01Cut_loop0_L p).hl s) (spec_l01Cut_loop0_L p).gl := by
  intro S p s fl h
  unfold spec_l01Cut_loop0_ext at h
  (repeat' split at h) <;> first
    | (cases h; constructor <;> simp_all [spec_l01Cut_loop0_L, keepT, keepH, rens, renH, PV.ren, Blk.ren, fOf, lget, nodup, natIn, lenEq, gtm, PV.unK])
    | cases h
theorem spec_l01Cut_loop0_hpost : ∀ p r e S', (spec_l01Cut_loop0_post p r).get = some (e, S') → e = (spec_l01Cut_loop0_L p).ex r ∧ S' = LSt ((spec_l01Cut_loop0_L p).otl r) ((spec_l01Cut_loop0_L p).ohl r) ((spec_l01Cut_loop0_L p).ogl r) := by
  intro p r e S' h
  unfold spec_l01Cut_loop0_post at h
  simp only [DT.get, Option.some.injEq, Prod.mk.injEq] at h; exact ⟨h.1.symm, h.2.symm⟩

def spec_l01Cut_loops : Nat → Option LoopF := loopTab [(4, spec_l01Cut_loop0_F)]
set_option maxRecDepth 100000 in
theorem spec_l01Cut_l0 : LoopOK Tryd.prog ⟨gam [], tab, 36, spec_l01Cut_loops⟩ (lp Tryd.f122 0) :=
  loopOK_some (F := spec_l01Cut_loop0_F) (by kernel_rfl) (loopF_ok (E := ⟨gam [], tab, 36, spec_l01Cut_loops⟩) ⟨gam_nil, tab_ok, by kernel_rfl⟩ (fuel := 100000) (loopsOK_list (l := []) (by kernel_rfl) trivial) (L := spec_l01Cut_loop0_L) (fun p s => by unfold AgreeL; exact ⟨by kernel_rfl, by kernel_rfl⟩) (fun _ _ h => Ex.noConfusion h) spec_l01Cut_loop0_hext spec_l01Cut_loop0_hpost)
/-- loop.example/g01284/spec.l01Cut -/
def spec_l01Cut_tree (a0 : (List UInt8)) (a1 : Int) : DT (List (List UInt8)) :=
  .need ((spec_l01Cut_loop0_ends (a0, a1) (0, 0, []))) (
  let x0 := spec_l01Cut_loop0 (a0, a1) (0, 0, []);
  .leaf x0)
def spec_l01Cut (a0 : (List UInt8)) (a1 : Int) : List (List UInt8) := (spec_l01Cut_tree a0 a1).val
def spec_l01Cut_need (a0 : (List UInt8)) (a1 : Int) : Bool := (spec_l01Cut_tree a0 a1).ok
def spec_l01Cut_mk (p : List (List UInt8)) : Ret := ⟨.own 0, [.typed 9 .str p]⟩
def spec_l01Cut_c : Con := fun args => match args with
  | [.str a0, .int .u8 a1] => some (.need (spec_l01Cut_need a0 a1) (.leaf (spec_l01Cut_mk (spec_l01Cut a0 a1))))
  | _ => none
set_option maxRecDepth 100000 in
theorem spec_l01Cut_ok : FunOK Tryd.prog 122 spec_l01Cut_c.fn := by
  refine con_ok (Γ := gam []) (gam_nil) tab_ok (by kernel_rfl) Tryd.func122 (by kernel_rfl) (by kernel_rfl) Tryd.ntmps122 Tryd.results122 (loops := spec_l01Cut_loops) (loopsOK_list (l := [lp Tryd.f122 0]) (by kernel_rfl) ⟨spec_l01Cut_l0, trivial⟩) 100000 fun args t h => ?_
  unfold spec_l01Cut_c at h
  split at h
  · rename_i a0 a1
    cases h
    exact ⟨rfl, agree_need (mk := spec_l01Cut_mk) (t := spec_l01Cut_tree a0 a1) (by unfold Agree; kernel_rfl)⟩
  · cases h

/-- loop.example/g01284/spec.l08Lines -/
def spec_l08Lines_tree (a0 : (List UInt8)) : DT (List (List UInt8) × (List UInt8)) :=
  .need ((spec_l01Cut_need a0 10)) (
  let x0 := spec_l01Cut a0 10;
  let x1 := ((List.length x0 : Nat) : Int);
  let x2 := IntKind.wrap .i64 (x1 - 1);
  .need ((decide (0 ≤ x2) && decide (x2 ≤ ((List.length x0 : Nat) : Int)))) (
  let x3 := ((List.length x0 : Nat) : Int);
  let x4 := IntKind.wrap .i64 (x3 - 1);
  .need ((decide (0 ≤ x4) && decide (x4 < ((List.length x0 : Nat) : Int)))) (
  .need ((decide ((Int.toNat x4) < List.length x0))) (
  let x5 := List.getD x0 (Int.toNat x4) default;
  .leaf ((List.take ((Int.toNat x2) - 0) x0), x5)))))
def spec_l08Lines (a0 : (List UInt8)) : List (List UInt8) × (List UInt8) := (spec_l08Lines_tree a0).val
def spec_l08Lines_need (a0 : (List UInt8)) : Bool := (spec_l08Lines_tree a0).ok
def spec_l08Lines_mk (p : List (List UInt8) × (List UInt8)) : Ret := ⟨.tup [.own 0, .str p.2], [.typed 9 .str p.1]⟩
def spec_l08Lines_c : Con := fun args => match args with
  | [.str a0] => some (.need (spec_l08Lines_need a0) (.leaf (spec_l08Lines_mk (spec_l08Lines a0))))
  | _ => none
set_option maxRecDepth 100000 in
theorem spec_l08Lines_ok : FunOK Tryd.prog 89 spec_l08Lines_c.fn := by
  refine con_ok (Γ := gam [(122, spec_l01Cut_c)]) (gam_cons spec_l01Cut_ok (gam_nil)) tab_ok (by kernel_rfl) Tryd.func89 (by kernel_rfl) (by kernel_rfl) Tryd.ntmps89 Tryd.results89 (loopsOK_none rfl _) 100000 fun args t h => ?_
  unfold spec_l08Lines_c at h
  split at h
  · rename_i a0
    cases h
    exact ⟨rfl, agree_need (mk := spec_l08Lines_mk) (t := spec_l08Lines_tree a0) (by unfold Agree; kernel_rfl)⟩
  · cases h

/-- a loop of spec_CountOutputs -/
def spec_CountOutputs_loop0_step (p : List (List UInt8)) (s : Int × Int) : Round (Int × Int) (Int) :=
  let x0 := ((List.length p : Nat) : Int);
  let x1 := decide (s.2 < x0);
  .ask x1
  (
   .need ((decide (0 ≤ s.2) && decide (s.2 < ((List.length p : Nat) : Int)))) (
   .need ((decide ((Int.toNat s.2) < List.length p))) (
   let x2 := List.getD p (Int.toNat s.2) default;
   let x3 := (x2 == [110, 111]);
   .ask x3
   (
    let x4 := IntKind.wrap .i64 (s.1 + 1);
    let x5 := IntKind.wrap .i64 (s.2 + 1);
    .leaf (.inl (x4, x5), [0]))
   (
    .need ((decide (0 ≤ s.2) && decide (s.2 < ((List.length p : Nat) : Int)))) (
    .need ((decide ((Int.toNat s.2) < List.length p))) (
    let x4 := List.getD p (Int.toNat s.2) default;
    let x5 := (x4 == [119, 104, 97, 116]);
    .ask x5
    (
     let x6 := IntKind.wrap .i64 (s.1 + 1);
     let x7 := IntKind.wrap .i64 (s.2 + 1);
     .leaf (.inl (x6, x7), [0]))
    (
     let x6 := IntKind.wrap .i64 (s.2 + 1);
     .leaf (.inl (s.1, x6), [0]))))))))
  (
   .leaf (.inr s.1, [0]))
def spec_CountOutputs_loop0_L (p : List (List UInt8)) : LoopS (Int × Int) (Int) := { tl := fun s => [.junk, .junk, .junk, .junk, .junk, .own 0, .junk, .int .i64 s.1, .int .i64 s.2], hl := fun s => [some (.typed 9 .str p)], ex := fun r => .exit 0, otl := fun r => [.junk, .junk, .junk, .junk, .junk, .own 0, .junk, .int .i64 r], ohl := fun r => [some (.typed 9 .str p)] }
def spec_CountOutputs_loop0_ext : St → Option ((List (List UInt8)) × (Int × Int) × List Nat) := fun S => match (S.tm 5).unK, (S.tm 7).unK, (S.tm 8).unK with
  | .own i0, .int .i64 q0, .int .i64 q1 => (match S.hp i0 with
    | some (.typed 9 .str q2) => some (q2, (q0, q1), [i0])
    | _ => none)
  | _, _, _ => none
def spec_CountOutputs_loop0_post (p : List (List UInt8)) (r : Int) : DT (Ex × St) := .leaf (.exit 0, LSt [.junk, .junk, .junk, .junk, .junk, .own 0, .junk, .int .i64 r] [some (.typed 9 .str p)])
def spec_CountOutputs_loop0 (p : List (List UInt8)) (s : Int × Int) : Int := loopVal (spec_CountOutputs_loop0_step p) s
def spec_CountOutputs_loop0_ends (p : List (List UInt8)) (s : Int × Int) : Bool := loopEnds (spec_CountOutputs_loop0_step p) s
def spec_CountOutputs_loop0_F : LoopF := loopF spec_CountOutputs_loop0_step spec_CountOutputs_loop0_ext spec_CountOutputs_loop0_post
theorem spec_CountOutputs_loop0_hext : ∀ S p s fl, spec_CountOutputs_loop0_ext S = some (p, s, fl) → Norm S fl ((spec_CountOutputs_loop0_L p).tl s) ((spec_CountOutputs_loop0_L p).hl s) (spec_CountOutputs_loop0_L p).gl := by
  intro S p s fl h
  unfold spec_CountOutputs_loop0_ext at h
  (repeat' split at h) <;> first
    | (cases h; constructor <;> simp_all [spec_CountOutputs_loop0_L, keepT, keepH, rens, renH, PV.ren, Blk.ren, fOf, lget, nodup, natIn, lenEq, gtm, PV.unK])
    | cases h
theorem spec_CountOutputs_loop0_hpost : ∀ p r e S', (spec_CountOutputs_loop0_post p r).get = some (e, S') → e = (spec_CountOutputs_loop0_L p).ex r ∧ S' = LSt ((spec_CountOutputs_loop0_L p).otl r) ((spec_CountOutputs_loop0_L p).ohl r) ((spec_CountOutputs_loop0_L p).ogl r) := by
  intro p r e S' h
  unfold spec_CountOutputs_loop0_post at h
  simp only [DT.get, Option.some.injEq, Prod.mk.injEq] at h; exact ⟨h.1.symm, h.2.symm⟩

def spec_CountOutputs_loops : Nat → Option LoopF := loopTab [(8, spec_CountOutputs_loop0_F)]
set_option maxRecDepth 100000 in
theorem spec_CountOutputs_l0 : LoopOK Tryd.prog ⟨gam [(89, spec_l08Lines_c)], tab, 44, spec_CountOutputs_loops⟩ (lp Tryd.f47 0) :=
  loopOK_some (F := spec_CountOutputs_loop0_F) (by kernel_rfl) (loopF_ok (E := ⟨gam [(89, spec_l08Lines_c)], tab, 44, spec_CountOutputs_loops⟩) ⟨gam_cons spec_l08Lines_ok (gam_nil), tab_ok, by kernel_rfl⟩ (fuel := 100000) (loopsOK_list (l := []) (by kernel_rfl) trivial) (L := spec_CountOutputs_loop0_L) (fun p s => by unfold AgreeL; exact ⟨by kernel_rfl, by kernel_rfl⟩) (fun _ _ h => Ex.noConfusion h) spec_CountOutputs_loop0_hext spec_CountOutputs_loop0_hpost)
/-- loop.example/g01284/spec.CountOutputs -/
def spec_CountOutputs_tree (a0 : (List UInt8)) : DT (Int × Int × Bool) :=
  let x0 := ((List.length a0 : Nat) : Int);
  let x1 := decide (x0 > 16000);
  .ask x1
  (
   .leaf (0, 0, false))
  (
   .need ((spec_l08Lines_need a0)) (
   let x2 := spec_l08Lines a0;
   let x3 := (!(x2.2 == []));
   .ask x3
   (
    .leaf (0, 0, false))
   (
    .need ((spec_CountOutputs_loop0_ends x2.1 (0, 0))) (
    let x4 := spec_CountOutputs_loop0 x2.1 (0, 0);
    let x5 := ((List.length x2.1 : Nat) : Int);
    let x6 := IntKind.wrap .i64 (x5 - x4);
    .leaf (x4, x6, true)))))
def spec_CountOutputs (a0 : (List UInt8)) : Int × Int × Bool := (spec_CountOutputs_tree a0).val
def spec_CountOutputs_need (a0 : (List UInt8)) : Bool := (spec_CountOutputs_tree a0).ok
def spec_CountOutputs_mk (p : Int × Int × Bool) : Ret := ⟨.tup [.int .i64 p.1, .int .i64 p.2.1, .bool p.2.2], []⟩
def spec_CountOutputs_c : Con := fun args => match args with
  | [.str a0] => some (.need (spec_CountOutputs_need a0) (.leaf (spec_CountOutputs_mk (spec_CountOutputs a0))))
  | _ => none
set_option maxRecDepth 100000 in
theorem spec_CountOutputs_ok : FunOK Tryd.prog 47 spec_CountOutputs_c.fn := by
  refine con_ok (Γ := gam [(89, spec_l08Lines_c)]) (gam_cons spec_l08Lines_ok (gam_nil)) tab_ok (by kernel_rfl) Tryd.func47 (by kernel_rfl) (by kernel_rfl) Tryd.ntmps47 Tryd.results47 (loops := spec_CountOutputs_loops) (loopsOK_list (l := [lp Tryd.f47 0]) (by kernel_rfl) ⟨spec_CountOutputs_l0, trivial⟩) 100000 fun args t h => ?_
  unfold spec_CountOutputs_c at h
  split at h
  · rename_i a0
    cases h
    exact ⟨rfl, agree_need (mk := spec_CountOutputs_mk) (t := spec_CountOutputs_tree a0) (by unfold Agree; kernel_rfl)⟩
  · cases h

-- FAILED 181 unicode/utf8.RuneCountInString: operation

-- FAILED 191 unicode/utf8.decodeRuneInStringSlow: global

-- FAILED 182 unicode/utf8.DecodeRuneInString: no contract: unicode/utf8.decodeRuneInStringSlow 

-- FAILED 161 strings.explode: no contract: unicode/utf8.RuneCountInString 

/-- internal/stringslite.IndexByte -/
def internal_stringslite_IndexByte_tree (a0 : (List UInt8)) (a1 : Int) : DT (Int) :=
  let x0 := Go.Lib.indexByte a0 (Nat.toUInt8 (Int.toNat a1));
  .leaf x0
def internal_stringslite_IndexByte (a0 : (List UInt8)) (a1 : Int) : Int := (internal_stringslite_IndexByte_tree a0 a1).val
def internal_stringslite_IndexByte_mk (p : Int) : Ret := ⟨.int .i64 p, []⟩
def internal_stringslite_IndexByte_c : Con := fun args => match args with
  | [.str a0, .int .u8 a1] => some (.leaf (internal_stringslite_IndexByte_mk (internal_stringslite_IndexByte a0 a1)))
  | _ => none
set_option maxRecDepth 100000 in
theorem internal_stringslite_IndexByte_ok : FunOK Tryd.prog 153 internal_stringslite_IndexByte_c.fn := by
  refine con_ok (Γ := gam [(174, internal_bytealg_IndexByteString_c)]) (gam_cons internal_bytealg_IndexByteString_ok (gam_nil)) tab_ok (by kernel_rfl) Tryd.func153 (by kernel_rfl) (by kernel_rfl) Tryd.ntmps153 Tryd.results153 (loopsOK_none rfl _) 100000 fun args t h => ?_
  unfold internal_stringslite_IndexByte_c at h
  split at h
  · rename_i a0 a1
    cases h
    exact ⟨rfl, agree_tot (mk := internal_stringslite_IndexByte_mk) (t := internal_stringslite_IndexByte_tree a0 a1) (by unfold Agree; kernel_rfl) (by kernel_rfl)⟩
  · cases h

-- FAILED 154 internal/bytealg.IndexString: no body

/-- internal/bytealg.Cutover -/
def internal_bytealg_Cutover_tree (a0 : Int) : DT (Int) :=
  let x0 := IntKind.wrap .i64 (a0 + 16);
  .skip (
  let x1 := IntKind.wrap .i64 (Int.tdiv x0 8);
  .leaf x1)
def internal_bytealg_Cutover (a0 : Int) : Int := (internal_bytealg_Cutover_tree a0).val
def internal_bytealg_Cutover_mk (p : Int) : Ret := ⟨.int .i64 p, []⟩
def internal_bytealg_Cutover_c : Con := fun args => match args with
  | [.int .i64 a0] => some (.leaf (internal_bytealg_Cutover_mk (internal_bytealg_Cutover a0)))
  | _ => none
set_option maxRecDepth 100000 in
theorem internal_bytealg_Cutover_ok : FunOK Tryd.prog 155 internal_bytealg_Cutover_c.fn := by
  refine con_ok (Γ := gam []) (gam_nil) tab_ok (by kernel_rfl) Tryd.func155 (by kernel_rfl) (by kernel_rfl) Tryd.ntmps155 Tryd.results155 (loopsOK_none rfl _) 100000 fun args t h => ?_
  unfold internal_bytealg_Cutover_c at h
  split at h
  · rename_i a0
    cases h
    exact ⟨rfl, agree_tot (mk := internal_bytealg_Cutover_mk) (t := internal_bytealg_Cutover_tree a0) (by unfold Agree; kernel_rfl) (by kernel_rfl)⟩
  · cases h

/-- a loop of internal_bytealg_hashStr_string_ -/
def internal_bytealg_hashStr_string__loop0_step (p : (List UInt8)) (s : Int × Int) : Round (Int × Int) (Int) :=
  let x0 := ((List.length p : Nat) : Int);
  let x1 := decide (s.2 < x0);
  .ask x1
  (
   let x2 := IntKind.wrap .u32 (s.1 * 16777619);
   .need ((decide (0 ≤ s.2) && decide (s.2 < ((List.length p : Nat) : Int)))) (
   let x3 := ((List.getD (p : List UInt8) (Int.toNat s.2) 0).toNat : Int);
   let x4 := IntKind.wrap .u32 x3;
   let x5 := IntKind.wrap .u32 (x2 + x4);
   let x6 := IntKind.wrap .i64 (s.2 + 1);
   .leaf (.inl (x5, x6), [])))
  (
   .leaf (.inr s.1, []))
def internal_bytealg_hashStr_string__loop0_L (p : (List UInt8)) : LoopS (Int × Int) (Int) := { tl := fun s => [.str p, .junk, .junk, .junk, .int .u32 s.1, .int .i64 s.2], hl := fun s => [], ex := fun r => .exit 0, otl := fun r => [.str p, .junk, .junk, .junk, .int .u32 r], ohl := fun r => [] }
def internal_bytealg_hashStr_string__loop0_ext : St → Option (((List UInt8)) × (Int × Int) × List Nat) := fun S => match (S.tm 0).unK, (S.tm 4).unK, (S.tm 5).unK with
  | .str q0, .int .u32 q1, .int .i64 q2 => some (q0, (q1, q2), [])
  | _, _, _ => none
def internal_bytealg_hashStr_string__loop0_post (p : (List UInt8)) (r : Int) : DT (Ex × St) := .leaf (.exit 0, LSt [.str p, .junk, .junk, .junk, .int .u32 r] [])
def internal_bytealg_hashStr_string__loop0 (p : (List UInt8)) (s : Int × Int) : Int := loopVal (internal_bytealg_hashStr_string__loop0_step p) s
def internal_bytealg_hashStr_string__loop0_ends (p : (List UInt8)) (s : Int × Int) : Bool := loopEnds (internal_bytealg_hashStr_string__loop0_step p) s
def internal_bytealg_hashStr_string__loop0_F : LoopF := loopF internal_bytealg_hashStr_string__loop0_step internal_bytealg_hashStr_string__loop0_ext internal_bytealg_hashStr_string__loop0_post
theorem internal_bytealg_hashStr_string__loop0_hext : ∀ S p s fl, internal_bytealg_hashStr_string__loop0_ext S = some (p, s, fl) → Norm S fl ((internal_bytealg_hashStr_string__loop0_L p).tl s) ((internal_bytealg_hashStr_string__loop0_L p).hl s) (internal_bytealg_hashStr_string__loop0_L p).gl := by
  intro S p s fl h
  unfold internal_bytealg_hashStr_string__loop0_ext at h
  (repeat' split at h) <;> first
    | (cases h; constructor <;> simp_all [internal_bytealg_hashStr_string__loop0_L, keepT, keepH, rens, renH, PV.ren, Blk.ren, fOf, lget, nodup, natIn, lenEq, gtm, PV.unK])
    | cases h
theorem internal_bytealg_hashStr_string__loop0_hpost : ∀ p r e S', (internal_bytealg_hashStr_string__loop0_post p r).get = some (e, S') → e = (internal_bytealg_hashStr_string__loop0_L p).ex r ∧ S' = LSt ((internal_bytealg_hashStr_string__loop0_L p).otl r) ((internal_bytealg_hashStr_string__loop0_L p).ohl r) ((internal_bytealg_hashStr_string__loop0_L p).ogl r) := by
  intro p r e S' h
  unfold internal_bytealg_hashStr_string__loop0_post at h
  simp only [DT.get, Option.some.injEq, Prod.mk.injEq] at h; exact ⟨h.1.symm, h.2.symm⟩

/-- a loop of internal_bytealg_hashStr_string_ -/
def internal_bytealg_hashStr_string__loop1_step (p : Int) (s : Int × Int × Int) : Round (Int × Int × Int) (Int) :=
  let x0 := decide (s.2.2 > 0);
  .ask x0
  (
   let x1 := IntKind.wrap .i64 (BitVec.ofInt (IntKind.bits .i64) s.2.2 &&& BitVec.ofInt (IntKind.bits .i64) 1).toNat;
   let x2 := (x1 != 0);
   .ask x2
   (
    let x3 := IntKind.wrap .u32 (s.1 * s.2.1);
    let x4 := IntKind.wrap .u32 (s.2.1 * s.2.1);
    .skip (
    let x5 := Int.fdiv s.2.2 (2 ^ (min (Int.toNat 1) (IntKind.bits .i64)));
    .leaf (.inl (x3, x4, x5), [])))
   (
    let x3 := IntKind.wrap .u32 (s.2.1 * s.2.1);
    .skip (
    let x4 := Int.fdiv s.2.2 (2 ^ (min (Int.toNat 1) (IntKind.bits .i64)));
    .leaf (.inl (s.1, x3, x4), []))))
  (
   .leaf (.inr s.1, []))
def internal_bytealg_hashStr_string__loop1_L (p : Int) : LoopS (Int × Int × Int) (Int) := { tl := fun s => [.junk, .junk, .junk, .junk, .int .u32 p, .junk, .int .u32 s.1, .int .u32 s.2.1, .int .i64 s.2.2], hl := fun s => [], ex := fun r => .exit 2, otl := fun r => [.junk, .junk, .junk, .junk, .int .u32 p, .junk, .int .u32 r], ohl := fun r => [] }
def internal_bytealg_hashStr_string__loop1_ext : St → Option ((Int) × (Int × Int × Int) × List Nat) := fun S => match (S.tm 4).unK, (S.tm 6).unK, (S.tm 7).unK, (S.tm 8).unK with
  | .int .u32 q0, .int .u32 q1, .int .u32 q2, .int .i64 q3 => some (q0, (q1, q2, q3), [])
  | _, _, _, _ => none
def internal_bytealg_hashStr_string__loop1_post (p : Int) (r : Int) : DT (Ex × St) := .leaf (.exit 2, LSt [.junk, .junk, .junk, .junk, .int .u32 p, .junk, .int .u32 r] [])
def internal_bytealg_hashStr_string__loop1 (p : Int) (s : Int × Int × Int) : Int := loopVal (internal_bytealg_hashStr_string__loop1_step p) s
def internal_bytealg_hashStr_string__loop1_ends (p : Int) (s : Int × Int × Int) : Bool := loopEnds (internal_bytealg_hashStr_string__loop1_step p) s
def internal_bytealg_hashStr_string__loop1_F : LoopF := loopF internal_bytealg_hashStr_string__loop1_step internal_bytealg_hashStr_string__loop1_ext internal_bytealg_hashStr_string__loop1_post
theorem internal_bytealg_hashStr_string__loop1_hext : ∀ S p s fl, internal_bytealg_hashStr_string__loop1_ext S = some (p, s, fl) → Norm S fl ((internal_bytealg_hashStr_string__loop1_L p).tl s) ((internal_bytealg_hashStr_string__loop1_L p).hl s) (internal_bytealg_hashStr_string__loop1_L p).gl := by
  intro S p s fl h
  unfold internal_bytealg_hashStr_string__loop1_ext at h
  (repeat' split at h) <;> first
    | (cases h; constructor <;> simp_all [internal_bytealg_hashStr_string__loop1_L, keepT, keepH, rens, renH, PV.ren, Blk.ren, fOf, lget, nodup, natIn, lenEq, gtm, PV.unK])
    | cases h
theorem internal_bytealg_hashStr_string__loop1_hpost : ∀ p r e S', (internal_bytealg_hashStr_string__loop1_post p r).get = some (e, S') → e = (internal_bytealg_hashStr_string__loop1_L p).ex r ∧ S' = LSt ((internal_bytealg_hashStr_string__loop1_L p).otl r) ((internal_bytealg_hashStr_string__loop1_L p).ohl r) ((internal_bytealg_hashStr_string__loop1_L p).ogl r) := by
  intro p r e S' h
  unfold internal_bytealg_hashStr_string__loop1_post at h
  simp only [DT.get, Option.some.injEq, Prod.mk.injEq] at h; exact ⟨h.1.symm, h.2.symm⟩

def internal_bytealg_hashStr_string__loops : Nat → Option LoopF := loopTab [(3, internal_bytealg_hashStr_string__loop0_F), (8, internal_bytealg_hashStr_string__loop1_F)]
set_option maxRecDepth 100000 in
theorem internal_bytealg_hashStr_string__l1 : LoopOK Tryd.prog ⟨gam [], tab, 39, internal_bytealg_hashStr_string__loops⟩ (lp Tryd.f175 1) :=
  loopOK_some (F := internal_bytealg_hashStr_string__loop1_F) (by kernel_rfl) (loopF_ok (E := ⟨gam [], tab, 39, internal_bytealg_hashStr_string__loops⟩) ⟨gam_nil, tab_ok, by kernel_rfl⟩ (fuel := 100000) (loopsOK_list (l := []) (by kernel_rfl) trivial) (L := internal_bytealg_hashStr_string__loop1_L) (fun p s => by unfold AgreeL; exact ⟨by kernel_rfl, by kernel_rfl⟩) (fun _ _ h => Ex.noConfusion h) internal_bytealg_hashStr_string__loop1_hext internal_bytealg_hashStr_string__loop1_hpost)
set_option maxRecDepth 100000 in
theorem internal_bytealg_hashStr_string__l0 : LoopOK Tryd.prog ⟨gam [], tab, 39, internal_bytealg_hashStr_string__loops⟩ (lp Tryd.f175 0) :=
  loopOK_some (F := internal_bytealg_hashStr_string__loop0_F) (by kernel_rfl) (loopF_ok (E := ⟨gam [], tab, 39, internal_bytealg_hashStr_string__loops⟩) ⟨gam_nil, tab_ok, by kernel_rfl⟩ (fuel := 100000) (loopsOK_list (l := []) (by kernel_rfl) trivial) (L := internal_bytealg_hashStr_string__loop0_L) (fun p s => by unfold AgreeL; exact ⟨by kernel_rfl, by kernel_rfl⟩) (fun _ _ h => Ex.noConfusion h) internal_bytealg_hashStr_string__loop0_hext internal_bytealg_hashStr_string__loop0_hpost)
/-- internal/bytealg.hashStr[string] -/
def internal_bytealg_hashStr_string__tree (a0 : (List UInt8)) : DT (Int × Int) :=
  .need ((internal_bytealg_hashStr_string__loop0_ends a0 (0, 0))) (
  let x0 := internal_bytealg_hashStr_string__loop0 a0 (0, 0);
  let x1 := ((List.length a0 : Nat) : Int);
  .need ((internal_bytealg_hashStr_string__loop1_ends x0 (1, 16777619, x1))) (
  let x2 := internal_bytealg_hashStr_string__loop1 x0 (1, 16777619, x1);
  .leaf (x0, x2)))
def internal_bytealg_hashStr_string_ (a0 : (List UInt8)) : Int × Int := (internal_bytealg_hashStr_string__tree a0).val
def internal_bytealg_hashStr_string__need (a0 : (List UInt8)) : Bool := (internal_bytealg_hashStr_string__tree a0).ok
def internal_bytealg_hashStr_string__mk (p : Int × Int) : Ret := ⟨.tup [.int .u32 p.1, .int .u32 p.2], []⟩
def internal_bytealg_hashStr_string__c : Con := fun args => match args with
  | [.str a0] => some (.need (internal_bytealg_hashStr_string__need a0) (.leaf (internal_bytealg_hashStr_string__mk (internal_bytealg_hashStr_string_ a0))))
  | _ => none
set_option maxRecDepth 100000 in
theorem internal_bytealg_hashStr_string__ok : FunOK Tryd.prog 175 internal_bytealg_hashStr_string__c.fn := by
  refine con_ok (Γ := gam []) (gam_nil) tab_ok (by kernel_rfl) Tryd.func175 (by kernel_rfl) (by kernel_rfl) Tryd.ntmps175 Tryd.results175 (loops := internal_bytealg_hashStr_string__loops) (loopsOK_list (l := [lp Tryd.f175 0, lp Tryd.f175 1]) (by kernel_rfl) ⟨internal_bytealg_hashStr_string__l0, ⟨internal_bytealg_hashStr_string__l1, trivial⟩⟩) 100000 fun args t h => ?_
  unfold internal_bytealg_hashStr_string__c at h
  split at h
  · rename_i a0
    cases h
    exact ⟨rfl, agree_need (mk := internal_bytealg_hashStr_string__mk) (t := internal_bytealg_hashStr_string__tree a0) (by unfold Agree; kernel_rfl)⟩
  · cases h

/-- a loop of internal_bytealg_IndexRabinKarp_string_ -/
def internal_bytealg_IndexRabinKarp_string__loop0_step (p : (List UInt8) × (List UInt8) × Int × Int × Int) (s : Int × Int) : Round (Int × Int) (Int) :=
  let x0 := decide (s.2 < p.2.2.2.2);
  .ask x0
  (
   let x1 := IntKind.wrap .u32 (s.1 * 16777619);
   .need ((decide (0 ≤ s.2) && decide (s.2 < ((List.length p.1 : Nat) : Int)))) (
   let x2 := ((List.getD (p.1 : List UInt8) (Int.toNat s.2) 0).toNat : Int);
   let x3 := IntKind.wrap .u32 x2;
   let x4 := IntKind.wrap .u32 (x1 + x3);
   let x5 := IntKind.wrap .i64 (s.2 + 1);
   .leaf (.inl (x4, x5), [])))
  (
   .leaf (.inr s.1, []))
def internal_bytealg_IndexRabinKarp_string__loop0_L (p : (List UInt8) × (List UInt8) × Int × Int × Int) : LoopS (Int × Int) (Int) := { tl := fun s => [.str p.1, .str p.2.1, .junk, .junk, .junk, .int .u32 p.2.2.1, .int .u32 p.2.2.2.1, .int .i64 p.2.2.2.2, .int .u32 s.1, .int .i64 s.2], hl := fun s => [], ex := fun r => .exit 0, otl := fun r => [.str p.1, .str p.2.1, .junk, .junk, .junk, .int .u32 p.2.2.1, .int .u32 p.2.2.2.1, .int .i64 p.2.2.2.2, .int .u32 r], ohl := fun r => [] }
def internal_bytealg_IndexRabinKarp_string__loop0_ext : St → Option (((List UInt8) × (List UInt8) × Int × Int × Int) × (Int × Int) × List Nat) := fun S => match (S.tm 0).unK, (S.tm 1).unK, (S.tm 5).unK, (S.tm 6).unK, (S.tm 7).unK, (S.tm 8).unK, (S.tm 9).unK with
  | .str q0, .str q1, .int .u32 q2, .int .u32 q3, .int .i64 q4, .int .u32 q5, .int .i64 q6 => some ((q0, q1, q2, q3, q4), (q5, q6), [])
  | _, _, _, _, _, _, _ => none
def internal_bytealg_IndexRabinKarp_string__loop0_post (p : (List UInt8) × (List UInt8) × Int × Int × Int) (r : Int) : DT (Ex × St) := .leaf (.exit 0, LSt [.str p.1, .str p.2.1, .junk, .junk, .junk, .int .u32 p.2.2.1, .int .u32 p.2.2.2.1, .int .i64 p.2.2.2.2, .int .u32 r] [])
def internal_bytealg_IndexRabinKarp_string__loop0 (p : (List UInt8) × (List UInt8) × Int × Int × Int) (s : Int × Int) : Int := loopVal (internal_bytealg_IndexRabinKarp_string__loop0_step p) s
def internal_bytealg_IndexRabinKarp_string__loop0_ends (p : (List UInt8) × (List UInt8) × Int × Int × Int) (s : Int × Int) : Bool := loopEnds (internal_bytealg_IndexRabinKarp_string__loop0_step p) s
def internal_bytealg_IndexRabinKarp_string__loop0_F : LoopF := loopF internal_bytealg_IndexRabinKarp_string__loop0_step internal_bytealg_IndexRabinKarp_string__loop0_ext internal_bytealg_IndexRabinKarp_string__loop0_post
theorem internal_bytealg_IndexRabinKarp_string__loop0_hext : ∀ S p s fl, internal_bytealg_IndexRabinKarp_string__loop0_ext S = some (p, s, fl) → Norm S fl ((internal_bytealg_IndexRabinKarp_string__loop0_L p).tl s) ((internal_bytealg_IndexRabinKarp_string__loop0_L p).hl s) (internal_bytealg_IndexRabinKarp_string__loop0_L p).gl := by
  intro S p s fl h
  unfold internal_bytealg_IndexRabinKarp_string__loop0_ext at h
  (repeat' split at h) <;> first
    | (cases h; constructor <;> simp_all [internal_bytealg_IndexRabinKarp_string__loop0_L, keepT, keepH, rens, renH, PV.ren, Blk.ren, fOf, lget, nodup, natIn, lenEq, gtm, PV.unK])
    | cases h
theorem internal_bytealg_IndexRabinKarp_string__loop0_hpost : ∀ p r e S', (internal_bytealg_IndexRabinKarp_string__loop0_post p r).get = some (e, S') → e = (internal_bytealg_IndexRabinKarp_string__loop0_L p).ex r ∧ S' = LSt ((internal_bytealg_IndexRabinKarp_string__loop0_L p).otl r) ((internal_bytealg_IndexRabinKarp_string__loop0_L p).ohl r) ((internal_bytealg_IndexRabinKarp_string__loop0_L p).ogl r) := by
  intro p r e S' h
  unfold internal_bytealg_IndexRabinKarp_string__loop0_post at h
  simp only [DT.get, Option.some.injEq, Prod.mk.injEq] at h; exact ⟨h.1.symm, h.2.symm⟩

/-- a loop of internal_bytealg_IndexRabinKarp_string_ -/
def internal_bytealg_IndexRabinKarp_string__loop1_step (p : (List UInt8) × (List UInt8) × Int × Int × Int) (s : Int × Int) : Round (Int × Int) ((Int) ⊕ (Unit)) :=
  let x0 := ((List.length p.1 : Nat) : Int);
  let x1 := decide (s.2 < x0);
  .ask x1
  (
   let x2 := IntKind.wrap .u32 (s.1 * 16777619);
   .need ((decide (0 ≤ s.2) && decide (s.2 < ((List.length p.1 : Nat) : Int)))) (
   let x3 := ((List.getD (p.1 : List UInt8) (Int.toNat s.2) 0).toNat : Int);
   let x4 := IntKind.wrap .u32 x3;
   let x5 := IntKind.wrap .u32 (x2 + x4);
   let x6 := IntKind.wrap .i64 (s.2 - p.2.2.2.2);
   .need ((decide (0 ≤ x6) && decide (x6 < ((List.length p.1 : Nat) : Int)))) (
   let x7 := ((List.getD (p.1 : List UInt8) (Int.toNat x6) 0).toNat : Int);
   let x8 := IntKind.wrap .u32 x7;
   let x9 := IntKind.wrap .u32 (p.2.2.2.1 * x8);
   let x10 := IntKind.wrap .u32 (x5 - x9);
   let x11 := IntKind.wrap .i64 (s.2 + 1);
   let x12 := (x10 == p.2.2.1);
   .ask x12
   (
    let x13 := IntKind.wrap .i64 (x11 - p.2.2.2.2);
    .need ((decide (0 ≤ x11) && decide (x11 ≤ ((List.length p.1 : Nat) : Int)))) (
    .need ((decide (0 ≤ x13) && decide (x13 ≤ (((Int.toNat x11) : Nat) : Int)))) (
    let x14 := List.drop (Int.toNat x13) (List.take (Int.toNat x11) p.1);
    let x15 := (x14 == p.2.1);
    .ask x15
    (
     let x16 := IntKind.wrap .i64 (x11 - p.2.2.2.2);
     .leaf (.inr (.inl x16), []))
    (
     .leaf (.inl (x10, x11), [])))))
   (
    .leaf (.inl (x10, x11), [])))))
  (
   .leaf (.inr (.inr ()), []))
def internal_bytealg_IndexRabinKarp_string__loop1_L (p : (List UInt8) × (List UInt8) × Int × Int × Int) : LoopS (Int × Int) ((Int) ⊕ (Unit)) := { tl := fun s => [.str p.1, .str p.2.1, .junk, .junk, .junk, .int .u32 p.2.2.1, .int .u32 p.2.2.2.1, .int .i64 p.2.2.2.2, .int .u32 s.1, .junk, .int .i64 s.2], hl := fun s => [], ex := fun r => match r with | .inl r => .ret | .inr r => .exit 2, otl := fun r => match r with | .inl r => [.junk, .junk, .junk, .junk, .int .i64 r] | .inr r => [.junk], ohl := fun r => match r with | .inl r => [] | .inr r => [] }
def internal_bytealg_IndexRabinKarp_string__loop1_ext : St → Option (((List UInt8) × (List UInt8) × Int × Int × Int) × (Int × Int) × List Nat) := fun S => match (S.tm 0).unK, (S.tm 1).unK, (S.tm 5).unK, (S.tm 6).unK, (S.tm 7).unK, (S.tm 8).unK, (S.tm 10).unK with
  | .str q0, .str q1, .int .u32 q2, .int .u32 q3, .int .i64 q4, .int .u32 q5, .int .i64 q6 => some ((q0, q1, q2, q3, q4), (q5, q6), [])
  | _, _, _, _, _, _, _ => none
def internal_bytealg_IndexRabinKarp_string__loop1_post (p : (List UInt8) × (List UInt8) × Int × Int × Int) (r : (Int) ⊕ (Unit)) : DT (Ex × St) := .ask (isL r) (.leaf (.ret, LSt [.junk, .junk, .junk, .junk, .int .i64 ((leftD r))] [])) (.leaf (.exit 2, LSt [.junk] []))
def internal_bytealg_IndexRabinKarp_string__loop1 (p : (List UInt8) × (List UInt8) × Int × Int × Int) (s : Int × Int) : (Int) ⊕ (Unit) := loopVal (internal_bytealg_IndexRabinKarp_string__loop1_step p) s
def internal_bytealg_IndexRabinKarp_string__loop1_ends (p : (List UInt8) × (List UInt8) × Int × Int × Int) (s : Int × Int) : Bool := loopEnds (internal_bytealg_IndexRabinKarp_string__loop1_step p) s
def internal_bytealg_IndexRabinKarp_string__loop1_F : LoopF := loopF internal_bytealg_IndexRabinKarp_string__loop1_step internal_bytealg_IndexRabinKarp_string__loop1_ext internal_bytealg_IndexRabinKarp_string__loop1_post
theorem internal_bytealg_IndexRabinKarp_string__loop1_hext : ∀ S p s fl, internal_bytealg_IndexRabinKarp_string__loop1_ext S = some (p, s, fl) → Norm S fl ((internal_bytealg_IndexRabinKarp_string__loop1_L p).tl s) ((internal_bytealg_IndexRabinKarp_string__loop1_L p).hl s) (internal_bytealg_IndexRabinKarp_string__loop1_L p).gl := by
  intro S p s fl h
  unfold internal_bytealg_IndexRabinKarp_string__loop1_ext at h
  (repeat' split at h) <;> first
    | (cases h; constructor <;> simp_all [internal_bytealg_IndexRabinKarp_string__loop1_L, keepT, keepH, rens, renH, PV.ren, Blk.ren, fOf, lget, nodup, natIn, lenEq, gtm, PV.unK])
    | cases h
theorem internal_bytealg_IndexRabinKarp_string__loop1_hpost : ∀ p r e S', (internal_bytealg_IndexRabinKarp_string__loop1_post p r).get = some (e, S') → e = (internal_bytealg_IndexRabinKarp_string__loop1_L p).ex r ∧ S' = LSt ((internal_bytealg_IndexRabinKarp_string__loop1_L p).otl r) ((internal_bytealg_IndexRabinKarp_string__loop1_L p).ohl r) ((internal_bytealg_IndexRabinKarp_string__loop1_L p).ogl r) := by
  intro p r e S' h
  unfold internal_bytealg_IndexRabinKarp_string__loop1_post at h
  cases r <;> (simp only [isL, DT.get, Option.some.injEq, Prod.mk.injEq] at h; exact ⟨h.1.symm, h.2.symm⟩)

def internal_bytealg_IndexRabinKarp_string__loops : Nat → Option LoopF := loopTab [(5, internal_bytealg_IndexRabinKarp_string__loop0_F), (11, internal_bytealg_IndexRabinKarp_string__loop1_F)]
set_option maxRecDepth 100000 in
theorem internal_bytealg_IndexRabinKarp_string__l1 : LoopOK Tryd.prog ⟨gam [(175, internal_bytealg_hashStr_string__c)], tab, 81, internal_bytealg_IndexRabinKarp_string__loops⟩ (lp Tryd.f156 1) :=
  loopOK_some (F := internal_bytealg_IndexRabinKarp_string__loop1_F) (by kernel_rfl) (loopF_ok (E := ⟨gam [(175, internal_bytealg_hashStr_string__c)], tab, 81, internal_bytealg_IndexRabinKarp_string__loops⟩) ⟨gam_cons internal_bytealg_hashStr_string__ok (gam_nil), tab_ok, by kernel_rfl⟩ (fuel := 100000) (loopsOK_list (l := []) (by kernel_rfl) trivial) (L := internal_bytealg_IndexRabinKarp_string__loop1_L) (fun p s => by unfold AgreeL; exact ⟨by kernel_rfl, by kernel_rfl⟩) (fun _ r h => by cases r <;> exact Ex.noConfusion h) internal_bytealg_IndexRabinKarp_string__loop1_hext internal_bytealg_IndexRabinKarp_string__loop1_hpost)
set_option maxRecDepth 100000 in
theorem internal_bytealg_IndexRabinKarp_string__l0 : LoopOK Tryd.prog ⟨gam [(175, internal_bytealg_hashStr_string__c)], tab, 81, internal_bytealg_IndexRabinKarp_string__loops⟩ (lp Tryd.f156 0) :=
  loopOK_some (F := internal_bytealg_IndexRabinKarp_string__loop0_F) (by kernel_rfl) (loopF_ok (E := ⟨gam [(175, internal_bytealg_hashStr_string__c)], tab, 81, internal_bytealg_IndexRabinKarp_string__loops⟩) ⟨gam_cons internal_bytealg_hashStr_string__ok (gam_nil), tab_ok, by kernel_rfl⟩ (fuel := 100000) (loopsOK_list (l := []) (by kernel_rfl) trivial) (L := internal_bytealg_IndexRabinKarp_string__loop0_L) (fun p s => by unfold AgreeL; exact ⟨by kernel_rfl, by kernel_rfl⟩) (fun _ _ h => Ex.noConfusion h) internal_bytealg_IndexRabinKarp_string__loop0_hext internal_bytealg_IndexRabinKarp_string__loop0_hpost)
/-- internal/bytealg.IndexRabinKarp[string] -/
def internal_bytealg_IndexRabinKarp_string__tree (a0 : (List UInt8)) (a1 : (List UInt8)) : DT (Int) :=
  .need ((internal_bytealg_hashStr_string__need a1)) (
  let x0 := internal_bytealg_hashStr_string_ a1;
  let x1 := ((List.length a1 : Nat) : Int);
  .need ((internal_bytealg_IndexRabinKarp_string__loop0_ends (a0, a1, x0.1, x0.2, x1) (0, 0))) (
  let x2 := internal_bytealg_IndexRabinKarp_string__loop0 (a0, a1, x0.1, x0.2, x1) (0, 0);
  let x3 := (x2 == x0.1);
  .ask x3
  (
   .need ((decide (0 ≤ x1) && decide (x1 ≤ ((List.length a0 : Nat) : Int)))) (
   let x4 := List.drop 0 (List.take (Int.toNat x1) a0);
   let x5 := (x4 == a1);
   .ask x5
   (
    .leaf 0)
   (
    .need ((internal_bytealg_IndexRabinKarp_string__loop1_ends (a0, a1, x0.1, x0.2, x1) (x2, x1))) (
    let x6 := internal_bytealg_IndexRabinKarp_string__loop1 (a0, a1, x0.1, x0.2, x1) (x2, x1);
    .ask ((isL x6))
    (
     .leaf ((leftD x6)))
    (
     .leaf (-1))))))
  (
   .need ((internal_bytealg_IndexRabinKarp_string__loop1_ends (a0, a1, x0.1, x0.2, x1) (x2, x1))) (
   let x4 := internal_bytealg_IndexRabinKarp_string__loop1 (a0, a1, x0.1, x0.2, x1) (x2, x1);
   .ask ((isL x4))
   (
    .leaf ((leftD x4)))
   (
    .leaf (-1))))))
def internal_bytealg_IndexRabinKarp_string_ (a0 : (List UInt8)) (a1 : (List UInt8)) : Int := (internal_bytealg_IndexRabinKarp_string__tree a0 a1).val
def internal_bytealg_IndexRabinKarp_string__need (a0 : (List UInt8)) (a1 : (List UInt8)) : Bool := (internal_bytealg_IndexRabinKarp_string__tree a0 a1).ok
def internal_bytealg_IndexRabinKarp_string__mk (p : Int) : Ret := ⟨.int .i64 p, []⟩
def internal_bytealg_IndexRabinKarp_string__c : Con := fun args => match args with
  | [.str a0, .str a1] => some (.need (internal_bytealg_IndexRabinKarp_string__need a0 a1) (.leaf (internal_bytealg_IndexRabinKarp_string__mk (internal_bytealg_IndexRabinKarp_string_ a0 a1))))
  | _ => none
set_option maxRecDepth 100000 in
theorem internal_bytealg_IndexRabinKarp_string__ok : FunOK Tryd.prog 156 internal_bytealg_IndexRabinKarp_string__c.fn := by
  refine con_ok (Γ := gam [(175, internal_bytealg_hashStr_string__c)]) (gam_cons internal_bytealg_hashStr_string__ok (gam_nil)) tab_ok (by kernel_rfl) Tryd.func156 (by kernel_rfl) (by kernel_rfl) Tryd.ntmps156 Tryd.results156 (loops := internal_bytealg_IndexRabinKarp_string__loops) (loopsOK_list (l := [lp Tryd.f156 0, lp Tryd.f156 1]) (by kernel_rfl) ⟨internal_bytealg_IndexRabinKarp_string__l0, ⟨internal_bytealg_IndexRabinKarp_string__l1, trivial⟩⟩) 100000 fun args t h => ?_
  unfold internal_bytealg_IndexRabinKarp_string__c at h
  split at h
  · rename_i a0 a1
    cases h
    exact ⟨rfl, agree_need (mk := internal_bytealg_IndexRabinKarp_string__mk) (t := internal_bytealg_IndexRabinKarp_string__tree a0 a1) (by unfold Agree; kernel_rfl)⟩
  · cases h

-- FAILED 140 internal/stringslite.Index: global

-- FAILED 118 strings.Index: no contract: internal/stringslite.Index 

-- FAILED 162 strings.Count: no contract: unicode/utf8.RuneCountInString 

-- FAILED 143 strings.genSplit: no contract: strings.explode 

-- FAILED 123 strings.Split: no contract: strings.genSplit 

/-- strings.Count -/
def strings_Count_k10_tree (a0 : (List UInt8)) : DT (Int) :=
  .skip (
  .skip (
  .skip (
  let x0 := ((Go.Lib.countByte a0 (Nat.toUInt8 (Int.toNat 10)) : Nat) : Int);
  .leaf x0)))
def strings_Count_k10 (a0 : (List UInt8)) : Int := (strings_Count_k10_tree a0).val
def strings_Count_k10_mk (p : Int) : Ret := ⟨.int .i64 p, []⟩
def strings_Count_k10_c : Con := fun args => match args with
  | [.str a0, .str a1] => bif decide (a1 = ([10] : List UInt8)) then (some (.leaf (strings_Count_k10_mk (strings_Count_k10 a0)))) else none
  | _ => none
set_option maxRecDepth 100000 in
theorem strings_Count_k10_ok : FunOK Tryd.prog 162 strings_Count_k10_c.fn := by
  refine con_ok (Γ := gam [(183, internal_bytealg_CountString_c)]) (gam_cons internal_bytealg_CountString_ok (gam_nil)) tab_ok (by kernel_rfl) Tryd.func162 (by kernel_rfl) (by kernel_rfl) Tryd.ntmps162 Tryd.results162 (loopsOK_none rfl _) 100000 fun args t h => ?_
  unfold strings_Count_k10_c at h
  split at h
  · rename_i a0 a1
    obtain ⟨hk1, h⟩ := bif_some h
    subst hk1
    cases h
    exact ⟨rfl, agree_tot (mk := strings_Count_k10_mk) (t := strings_Count_k10_tree a0) (by unfold Agree; kernel_rfl) (by kernel_rfl)⟩
  · cases h

/-- internal/stringslite.Index -/
def internal_stringslite_Index_k10_tree (a0 : (List UInt8)) : DT (Int) :=
  .skip (
  .skip (
  .skip (
  let x0 := ([10] == a0);
  .skip (
  .ask x0
  (
   .leaf 0)
  (
   .skip (
   .skip (
   let x1 := internal_stringslite_IndexByte a0 10;
   .leaf x1)))))))
def internal_stringslite_Index_k10 (a0 : (List UInt8)) : Int := (internal_stringslite_Index_k10_tree a0).val
def internal_stringslite_Index_k10_mk (p : Int) : Ret := ⟨.int .i64 p, []⟩
def internal_stringslite_Index_k10_c : Con := fun args => match args with
  | [.str a0, .str a1] => bif decide (a1 = ([10] : List UInt8)) then (some (.leaf (internal_stringslite_Index_k10_mk (internal_stringslite_Index_k10 a0)))) else none
  | _ => none
set_option maxRecDepth 100000 in
theorem internal_stringslite_Index_k10_ok : FunOK Tryd.prog 140 internal_stringslite_Index_k10_c.fn := by
  refine con_ok (Γ := gam [(153, internal_stringslite_IndexByte_c)]) (gam_cons internal_stringslite_IndexByte_ok (gam_nil)) tab_ok (by kernel_rfl) Tryd.func140 (by kernel_rfl) (by kernel_rfl) Tryd.ntmps140 Tryd.results140 (loopsOK_none rfl _) 100000 fun args t h => ?_
  unfold internal_stringslite_Index_k10_c at h
  split at h
  · rename_i a0 a1
    obtain ⟨hk1, h⟩ := bif_some h
    subst hk1
    cases h
    exact ⟨rfl, agree_tot (mk := internal_stringslite_Index_k10_mk) (t := internal_stringslite_Index_k10_tree a0) (by unfold Agree; kernel_rfl) (by kernel_rfl)⟩
  · cases h

/-- strings.Index -/
def strings_Index_k10_tree (a0 : (List UInt8)) : DT (Int) :=
  let x0 := internal_stringslite_Index_k10 a0;
  .leaf x0
def strings_Index_k10 (a0 : (List UInt8)) : Int := (strings_Index_k10_tree a0).val
def strings_Index_k10_mk (p : Int) : Ret := ⟨.int .i64 p, []⟩
def strings_Index_k10_c : Con := fun args => match args with
  | [.str a0, .str a1] => bif decide (a1 = ([10] : List UInt8)) then (some (.leaf (strings_Index_k10_mk (strings_Index_k10 a0)))) else none
  | _ => none
set_option maxRecDepth 100000 in
theorem strings_Index_k10_ok : FunOK Tryd.prog 118 strings_Index_k10_c.fn := by
  refine con_ok (Γ := gam [(140, internal_stringslite_Index_k10_c)]) (gam_cons internal_stringslite_Index_k10_ok (gam_nil)) tab_ok (by kernel_rfl) Tryd.func118 (by kernel_rfl) (by kernel_rfl) Tryd.ntmps118 Tryd.results118 (loopsOK_none rfl _) 100000 fun args t h => ?_
  unfold strings_Index_k10_c at h
  split at h
  · rename_i a0 a1
    obtain ⟨hk1, h⟩ := bif_some h
    subst hk1
    cases h
    exact ⟨rfl, agree_tot (mk := strings_Index_k10_mk) (t := strings_Index_k10_tree a0) (by unfold Agree; kernel_rfl) (by kernel_rfl)⟩
  · cases h

/-- a loop of strings_genSplit_k10_k0_m1 -/
def strings_genSplit_k10_k0_m1_loop0_step (p : Int × Int) (s : (List UInt8) × Int × List (List UInt8)) : Round ((List UInt8) × Int × List (List UInt8)) ((List UInt8) × Int × List (List UInt8)) :=
  let x0 := decide (s.2.1 < p.2);
  .ask x0
  (
   let x1 := strings_Index_k10 s.1;
   let x2 := decide (x1 < 0);
   .ask x2
   (
    .leaf (.inr (s.1, s.2.1, s.2.2), [0]))
   (
    let x3 := IntKind.wrap .i64 (x1 + p.1);
    .need ((decide (0 ≤ x3) && decide (x3 ≤ ((List.length s.1 : Nat) : Int)))) (
    let x4 := List.drop 0 (List.take (Int.toNat x3) s.1);
    .need ((decide (0 ≤ s.2.1) && decide (s.2.1 < ((List.length s.2.2 : Nat) : Int)))) (
    .need ((decide ((Int.toNat s.2.1) < List.length s.2.2))) (
    let x5 := List.set s.2.2 (Int.toNat s.2.1) x4;
    let x6 := IntKind.wrap .i64 (x1 + 1);
    .need ((decide (0 ≤ x6) && decide (x6 ≤ (((List.length s.1) : Nat) : Int)))) (
    let x7 := List.drop (Int.toNat x6) (List.take (List.length s.1) s.1);
    let x8 := IntKind.wrap .i64 (s.2.1 + 1);
    .leaf (.inl (x7, x8, x5), [0])))))))
  (
   .leaf (.inr (s.1, s.2.1, s.2.2), [0]))
def strings_genSplit_k10_k0_m1_loop0_L (p : Int × Int) : LoopS ((List UInt8) × Int × List (List UInt8)) ((List UInt8) × Int × List (List UInt8)) := { tl := fun s => [.str s.1, .str [10], .int .i64 p.1, .int .i64 p.2, .junk, .junk, .junk, .junk, .junk, .own 0, .int .i64 s.2.1], hl := fun s => [some (.typed 9 .str s.2.2)], ex := fun r => .exit 0, otl := fun r => [.str r.1, .junk, .junk, .junk, .junk, .junk, .junk, .junk, .junk, .own 0, .int .i64 r.2.1], ohl := fun r => [some (.typed 9 .str r.2.2)] }
def strings_genSplit_k10_k0_m1_loop0_ext : St → Option ((Int × Int) × ((List UInt8) × Int × List (List UInt8)) × List Nat) := fun S => match (S.tm 0).unK, (S.tm 1).unK, (S.tm 2).unK, (S.tm 3).unK, (S.tm 9).unK, (S.tm 10).unK with
  | .str q0, .str q1, .int .i64 q2, .int .i64 q3, .own i0, .int .i64 q4 => (match S.hp i0 with
    | some (.typed 9 .str q5) => (if q1 = ([10] : List UInt8) then some ((q2, q3), (q0, q4, q5), [i0]) else none)
    | _ => none)
  | _, _, _, _, _, _ => none
def strings_genSplit_k10_k0_m1_loop0_post (p : Int × Int) (r : (List UInt8) × Int × List (List UInt8)) : DT (Ex × St) := .leaf (.exit 0, LSt [.str r.1, .junk, .junk, .junk, .junk, .junk, .junk, .junk, .junk, .own 0, .int .i64 r.2.1] [some (.typed 9 .str r.2.2)])
def strings_genSplit_k10_k0_m1_loop0 (p : Int × Int) (s : (List UInt8) × Int × List (List UInt8)) : (List UInt8) × Int × List (List UInt8) := loopVal (strings_genSplit_k10_k0_m1_loop0_step p) s
def strings_genSplit_k10_k0_m1_loop0_ends (p : Int × Int) (s : (List UInt8) × Int × List (List UInt8)) : Bool := loopEnds (strings_genSplit_k10_k0_m1_loop0_step p) s
def strings_genSplit_k10_k0_m1_loop0_F : LoopF := loopF strings_genSplit_k10_k0_m1_loop0_step strings_genSplit_k10_k0_m1_loop0_ext strings_genSplit_k10_k0_m1_loop0_post
theorem strings_genSplit_k10_k0_m1_loop0_hext : ∀ S p s fl, strings_genSplit_k10_k0_m1_loop0_ext S = some (p, s, fl) → Norm S fl ((strings_genSplit_k10_k0_m1_loop0_L p).tl s) ((strings_genSplit_k10_k0_m1_loop0_L p).hl s) (strings_genSplit_k10_k0_m1_loop0_L p).gl := by
  intro S p s fl h
  unfold strings_genSplit_k10_k0_m1_loop0_ext at h
  (repeat' split at h) <;> first
    | (cases h; constructor <;> simp_all [strings_genSplit_k10_k0_m1_loop0_L, keepT, keepH, rens, renH, PV.ren, Blk.ren, fOf, lget, nodup, natIn, lenEq, gtm, PV.unK])
    | cases h
theorem strings_genSplit_k10_k0_m1_loop0_hpost : ∀ p r e S', (strings_genSplit_k10_k0_m1_loop0_post p r).get = some (e, S') → e = (strings_genSplit_k10_k0_m1_loop0_L p).ex r ∧ S' = LSt ((strings_genSplit_k10_k0_m1_loop0_L p).otl r) ((strings_genSplit_k10_k0_m1_loop0_L p).ohl r) ((strings_genSplit_k10_k0_m1_loop0_L p).ogl r) := by
  intro p r e S' h
  unfold strings_genSplit_k10_k0_m1_loop0_post at h
  simp only [DT.get, Option.some.injEq, Prod.mk.injEq] at h; exact ⟨h.1.symm, h.2.symm⟩

def strings_genSplit_k10_k0_m1_loops : Nat → Option LoopF := loopTab [(11, strings_genSplit_k10_k0_m1_loop0_F)]
set_option maxRecDepth 100000 in
theorem strings_genSplit_k10_k0_m1_l0 : LoopOK Tryd.prog ⟨gam [(162, strings_Count_k10_c), (118, strings_Index_k10_c)], tab, 66, strings_genSplit_k10_k0_m1_loops⟩ (lp Tryd.f143 0) :=
  loopOK_some (F := strings_genSplit_k10_k0_m1_loop0_F) (by kernel_rfl) (loopF_ok (E := ⟨gam [(162, strings_Count_k10_c), (118, strings_Index_k10_c)], tab, 66, strings_genSplit_k10_k0_m1_loops⟩) ⟨gam_cons strings_Count_k10_ok (gam_cons strings_Index_k10_ok (gam_nil)), tab_ok, by kernel_rfl⟩ (fuel := 100000) (loopsOK_list (l := []) (by kernel_rfl) trivial) (L := strings_genSplit_k10_k0_m1_loop0_L) (fun p s => by unfold AgreeL; exact ⟨by kernel_rfl, by kernel_rfl⟩) (fun _ _ h => Ex.noConfusion h) strings_genSplit_k10_k0_m1_loop0_hext strings_genSplit_k10_k0_m1_loop0_hpost)
/-- strings.genSplit -/
def strings_genSplit_k10_k0_m1_tree (a0 : (List UInt8)) : DT (List (List UInt8)) :=
  .skip (
  .skip (
  .skip (
  let x0 := strings_Count_k10 a0;
  let x1 := IntKind.wrap .i64 (x0 + 1);
  let x2 := ((List.length a0 : Nat) : Int);
  let x3 := IntKind.wrap .i64 (x2 + 1);
  let x4 := (bif decide (x3 < x1) then x3 else x1);
  .need ((decide (0 ≤ x4) && decide (x4 ≤ x4) && decide (16 * x4 ≤ 281474976710656) && decide (x4 ≤ 9223372036854775807))) (
  let x5 := List.replicate (Int.toNat x4) [];
  let x6 := IntKind.wrap .i64 (x4 - 1);
  .need ((strings_genSplit_k10_k0_m1_loop0_ends (0, x6) (a0, 0, x5))) (
  let x7 := strings_genSplit_k10_k0_m1_loop0 (0, x6) (a0, 0, x5);
  .need ((decide (0 ≤ x7.2.1) && decide (x7.2.1 < ((List.length x7.2.2 : Nat) : Int)))) (
  .need ((decide ((Int.toNat x7.2.1) < List.length x7.2.2))) (
  let x8 := List.set x7.2.2 (Int.toNat x7.2.1) x7.1;
  let x9 := IntKind.wrap .i64 (x7.2.1 + 1);
  .need ((decide (0 ≤ x9) && decide (x9 ≤ ((List.length x8 : Nat) : Int)))) (
  .leaf ((List.take ((Int.toNat x9) - 0) x8))))))))))
def strings_genSplit_k10_k0_m1 (a0 : (List UInt8)) : List (List UInt8) := (strings_genSplit_k10_k0_m1_tree a0).val
def strings_genSplit_k10_k0_m1_need (a0 : (List UInt8)) : Bool := (strings_genSplit_k10_k0_m1_tree a0).ok
def strings_genSplit_k10_k0_m1_mk (p : List (List UInt8)) : Ret := ⟨.own 0, [.typed 9 .str p]⟩
def strings_genSplit_k10_k0_m1_c : Con := fun args => match args with
  | [.str a0, .str a1, .int .i64 a2, .int .i64 a3] => bif decide (a1 = ([10] : List UInt8)) then (bif decide (a2 = (0 : Int)) then (bif decide (a3 = ((-1) : Int)) then (some (.need (strings_genSplit_k10_k0_m1_need a0) (.leaf (strings_genSplit_k10_k0_m1_mk (strings_genSplit_k10_k0_m1 a0))))) else none) else none) else none
  | _ => none
set_option maxRecDepth 100000 in
theorem strings_genSplit_k10_k0_m1_ok : FunOK Tryd.prog 143 strings_genSplit_k10_k0_m1_c.fn := by
  refine con_ok (Γ := gam [(162, strings_Count_k10_c), (118, strings_Index_k10_c)]) (gam_cons strings_Count_k10_ok (gam_cons strings_Index_k10_ok (gam_nil))) tab_ok (by kernel_rfl) Tryd.func143 (by kernel_rfl) (by kernel_rfl) Tryd.ntmps143 Tryd.results143 (loops := strings_genSplit_k10_k0_m1_loops) (loopsOK_list (l := [lp Tryd.f143 0]) (by kernel_rfl) ⟨strings_genSplit_k10_k0_m1_l0, trivial⟩) 100000 fun args t h => ?_
  unfold strings_genSplit_k10_k0_m1_c at h
  split at h
  · rename_i a0 a1 a2 a3
    obtain ⟨hk1, h⟩ := bif_some h
    obtain ⟨hk2, h⟩ := bif_some h
    obtain ⟨hk3, h⟩ := bif_some h
    subst hk1 hk2 hk3
    cases h
    exact ⟨rfl, agree_need (mk := strings_genSplit_k10_k0_m1_mk) (t := strings_genSplit_k10_k0_m1_tree a0) (by unfold Agree; kernel_rfl)⟩
  · cases h

/-- strings.Split -/
def strings_Split_k10_tree (a0 : (List UInt8)) : DT (List (List UInt8)) :=
  .need ((strings_genSplit_k10_k0_m1_need a0)) (
  let x0 := strings_genSplit_k10_k0_m1 a0;
  .leaf x0)
def strings_Split_k10 (a0 : (List UInt8)) : List (List UInt8) := (strings_Split_k10_tree a0).val
def strings_Split_k10_need (a0 : (List UInt8)) : Bool := (strings_Split_k10_tree a0).ok
def strings_Split_k10_mk (p : List (List UInt8)) : Ret := ⟨.own 0, [.typed 9 .str p]⟩
def strings_Split_k10_c : Con := fun args => match args with
  | [.str a0, .str a1] => bif decide (a1 = ([10] : List UInt8)) then (some (.need (strings_Split_k10_need a0) (.leaf (strings_Split_k10_mk (strings_Split_k10 a0))))) else none
  | _ => none
set_option maxRecDepth 100000 in
theorem strings_Split_k10_ok : FunOK Tryd.prog 123 strings_Split_k10_c.fn := by
  refine con_ok (Γ := gam [(143, strings_genSplit_k10_k0_m1_c)]) (gam_cons strings_genSplit_k10_k0_m1_ok (gam_nil)) tab_ok (by kernel_rfl) Tryd.func123 (by kernel_rfl) (by kernel_rfl) Tryd.ntmps123 Tryd.results123 (loopsOK_none rfl _) 100000 fun args t h => ?_
  unfold strings_Split_k10_c at h
  split at h
  · rename_i a0 a1
    obtain ⟨hk1, h⟩ := bif_some h
    subst hk1
    cases h
    exact ⟨rfl, agree_need (mk := strings_Split_k10_mk) (t := strings_Split_k10_tree a0) (by unfold Agree; kernel_rfl)⟩
  · cases h

/-- loop.example/g01284/impl.linesOf -/
def impl_linesOf_tree (a0 : (List UInt8)) : DT (List (List UInt8) × Bool) :=
  .need ((strings_Split_k10_need a0)) (
  let x0 := strings_Split_k10 a0;
  let x1 := ((List.length x0 : Nat) : Int);
  let x2 := IntKind.wrap .i64 (x1 - 1);
  .need ((decide (0 ≤ x2) && decide (x2 ≤ ((List.length x0 : Nat) : Int)))) (
  let x3 := ((List.length a0 : Nat) : Int);
  let x4 := decide (x3 ≤ 16000);
  .ask x4
  (
   .need ((decide (0 ≤ x2) && decide (x2 < ((List.length x0 : Nat) : Int)))) (
   .need ((decide ((Int.toNat x2) < List.length x0))) (
   let x5 := List.getD x0 (Int.toNat x2) default;
   let x6 := (x5 == []);
   .leaf ((List.take ((Int.toNat x2) - 0) x0), x6))))
  (
   .leaf ((List.take ((Int.toNat x2) - 0) x0), false))))
def impl_linesOf (a0 : (List UInt8)) : List (List UInt8) × Bool := (impl_linesOf_tree a0).val
def impl_linesOf_need (a0 : (List UInt8)) : Bool := (impl_linesOf_tree a0).ok
def impl_linesOf_mk (p : List (List UInt8) × Bool) : Ret := ⟨.tup [.own 0, .bool p.2], [.typed 9 .str p.1]⟩
def impl_linesOf_c : Con := fun args => match args with
  | [.str a0] => some (.need (impl_linesOf_need a0) (.leaf (impl_linesOf_mk (impl_linesOf a0))))
  | _ => none
set_option maxRecDepth 100000 in
theorem impl_linesOf_ok : FunOK Tryd.prog 90 impl_linesOf_c.fn := by
  refine con_ok (Γ := gam [(123, strings_Split_k10_c)]) (gam_cons strings_Split_k10_ok (gam_nil)) tab_ok (by kernel_rfl) Tryd.func90 (by kernel_rfl) (by kernel_rfl) Tryd.ntmps90 Tryd.results90 (loopsOK_none rfl _) 100000 fun args t h => ?_
  unfold impl_linesOf_c at h
  split at h
  · rename_i a0
    cases h
    exact ⟨rfl, agree_need (mk := impl_linesOf_mk) (t := impl_linesOf_tree a0) (by unfold Agree; kernel_rfl)⟩
  · cases h

/-- a loop of impl_CountOutputs -/
def impl_CountOutputs_loop0_step (p : Int × List (List UInt8)) (s : Int × Int × Int) : Round (Int × Int × Int) (Int × Int) :=
  let x0 := decide (s.2.2 < p.1);
  .ask x0
  (
   .need ((decide (0 ≤ s.2.2) && decide (s.2.2 < ((List.length p.2 : Nat) : Int)))) (
   .need ((decide ((Int.toNat s.2.2) < List.length p.2))) (
   let x1 := List.getD p.2 (Int.toNat s.2.2) default;
   let x2 := (x1 == [110, 111]);
   .ask x2
   (
    let x3 := IntKind.wrap .i64 (s.1 + 1);
    let x4 := IntKind.wrap .i64 (s.2.2 + 1);
    .leaf (.inl (x3, s.2.1, x4), [0]))
   (
    let x3 := (x1 == [119, 104, 97, 116]);
    .ask x3
    (
     let x4 := IntKind.wrap .i64 (s.1 + 1);
     let x5 := IntKind.wrap .i64 (s.2.2 + 1);
     .leaf (.inl (x4, s.2.1, x5), [0]))
    (
     let x4 := IntKind.wrap .i64 (s.2.1 + 1);
     let x5 := IntKind.wrap .i64 (s.2.2 + 1);
     .leaf (.inl (s.1, x4, x5), [0]))))))
  (
   .leaf (.inr (s.1, s.2.1), []))
def impl_CountOutputs_loop0_L (p : Int × List (List UInt8)) : LoopS (Int × Int × Int) (Int × Int) := { tl := fun s => [.junk, .junk, .junk, .junk, .junk, .junk, .junk, .int .i64 s.1, .int .i64 s.2.1, .junk, .junk, .junk, .junk, .junk, .junk, .junk, .junk, .junk, .own 0, .int .i64 p.1, .int .i64 s.2.2], hl := fun s => [some (.typed 9 .str p.2)], ex := fun r => .exit 0, otl := fun r => [.junk, .junk, .junk, .junk, .junk, .junk, .junk, .int .i64 r.1, .int .i64 r.2], ohl := fun r => [] }
def impl_CountOutputs_loop0_ext : St → Option ((Int × List (List UInt8)) × (Int × Int × Int) × List Nat) := fun S => match (S.tm 7).unK, (S.tm 8).unK, (S.tm 18).unK, (S.tm 19).unK, (S.tm 20).unK with
  | .int .i64 q0, .int .i64 q1, .own i0, .int .i64 q2, .int .i64 q3 => (match S.hp i0 with
    | some (.typed 9 .str q4) => some ((q2, q4), (q0, q1, q3), [i0])
    | _ => none)
  | _, _, _, _, _ => none
def impl_CountOutputs_loop0_post (p : Int × List (List UInt8)) (r : Int × Int) : DT (Ex × St) := .leaf (.exit 0, LSt [.junk, .junk, .junk, .junk, .junk, .junk, .junk, .int .i64 r.1, .int .i64 r.2] [])
def impl_CountOutputs_loop0 (p : Int × List (List UInt8)) (s : Int × Int × Int) : Int × Int := loopVal (impl_CountOutputs_loop0_step p) s
def impl_CountOutputs_loop0_ends (p : Int × List (List UInt8)) (s : Int × Int × Int) : Bool := loopEnds (impl_CountOutputs_loop0_step p) s
def impl_CountOutputs_loop0_F : LoopF := loopF impl_CountOutputs_loop0_step impl_CountOutputs_loop0_ext impl_CountOutputs_loop0_post
theorem impl_CountOutputs_loop0_hext : ∀ S p s fl, impl_CountOutputs_loop0_ext S = some (p, s, fl) → Norm S fl ((impl_CountOutputs_loop0_L p).tl s) ((impl_CountOutputs_loop0_L p).hl s) (impl_CountOutputs_loop0_L p).gl := by
  intro S p s fl h
  unfold impl_CountOutputs_loop0_ext at h
  (repeat' split at h) <;> first
    | (cases h; constructor <;> simp_all [impl_CountOutputs_loop0_L, keepT, keepH, rens, renH, PV.ren, Blk.ren, fOf, lget, nodup, natIn, lenEq, gtm, PV.unK])
    | cases h
theorem impl_CountOutputs_loop0_hpost : ∀ p r e S', (impl_CountOutputs_loop0_post p r).get = some (e, S') → e = (impl_CountOutputs_loop0_L p).ex r ∧ S' = LSt ((impl_CountOutputs_loop0_L p).otl r) ((impl_CountOutputs_loop0_L p).ohl r) ((impl_CountOutputs_loop0_L p).ogl r) := by
  intro p r e S' h
  unfold impl_CountOutputs_loop0_post at h
  simp only [DT.get, Option.some.injEq, Prod.mk.injEq] at h; exact ⟨h.1.symm, h.2.symm⟩

def impl_CountOutputs_loops : Nat → Option LoopF := loopTab [(6, impl_CountOutputs_loop0_F)]
set_option maxRecDepth 100000 in
theorem impl_CountOutputs_l0 : LoopOK Tryd.prog ⟨gam [(90, impl_linesOf_c)], tab, 37, impl_CountOutputs_loops⟩ (lp Tryd.f48 0) :=
  loopOK_some (F := impl_CountOutputs_loop0_F) (by kernel_rfl) (loopF_ok (E := ⟨gam [(90, impl_linesOf_c)], tab, 37, impl_CountOutputs_loops⟩) ⟨gam_cons impl_linesOf_ok (gam_nil), tab_ok, by kernel_rfl⟩ (fuel := 100000) (loopsOK_list (l := []) (by kernel_rfl) trivial) (L := impl_CountOutputs_loop0_L) (fun p s => by unfold AgreeL; exact ⟨by kernel_rfl, by kernel_rfl⟩) (fun _ _ h => Ex.noConfusion h) impl_CountOutputs_loop0_hext impl_CountOutputs_loop0_hpost)
/-- loop.example/g01284/impl.CountOutputs -/
def impl_CountOutputs_tree (a0 : (List UInt8)) : DT (Int × Int × Bool) :=
  .need ((impl_linesOf_need a0)) (
  let x0 := impl_linesOf a0;
  .ask (!x0.2)
  (
   .leaf (0, 0, false))
  (
   let x1 := ((List.length x0.1 : Nat) : Int);
   .need ((impl_CountOutputs_loop0_ends (x1, x0.1) (0, 0, 0))) (
   let x2 := impl_CountOutputs_loop0 (x1, x0.1) (0, 0, 0);
   .leaf (x2.1, x2.2, true))))
def impl_CountOutputs (a0 : (List UInt8)) : Int × Int × Bool := (impl_CountOutputs_tree a0).val
def impl_CountOutputs_need (a0 : (List UInt8)) : Bool := (impl_CountOutputs_tree a0).ok
def impl_CountOutputs_mk (p : Int × Int × Bool) : Ret := ⟨.tup [.int .i64 p.1, .int .i64 p.2.1, .bool p.2.2], []⟩
def impl_CountOutputs_c : Con := fun args => match args with
  | [.str a0] => some (.need (impl_CountOutputs_need a0) (.leaf (impl_CountOutputs_mk (impl_CountOutputs a0))))
  | _ => none
set_option maxRecDepth 100000 in
theorem impl_CountOutputs_ok : FunOK Tryd.prog 48 impl_CountOutputs_c.fn := by
  refine con_ok (Γ := gam [(90, impl_linesOf_c)]) (gam_cons impl_linesOf_ok (gam_nil)) tab_ok (by kernel_rfl) Tryd.func48 (by kernel_rfl) (by kernel_rfl) Tryd.ntmps48 Tryd.results48 (loops := impl_CountOutputs_loops) (loopsOK_list (l := [lp Tryd.f48 0]) (by kernel_rfl) ⟨impl_CountOutputs_l0, trivial⟩) 100000 fun args t h => ?_
  unfold impl_CountOutputs_c at h
  split at h
  · rename_i a0
    cases h
    exact ⟨rfl, agree_need (mk := impl_CountOutputs_mk) (t := impl_CountOutputs_tree a0) (by unfold Agree; kernel_rfl)⟩
  · cases h

/-- loop.example/g01284/laws.FnExactCountOutputs -/
def laws_FnExactCountOutputs_tree (a0 : (List UInt8)) : DT (Bool) :=
  let x0 := ((List.length a0 : Nat) : Int);
  let x1 := decide (x0 > 1048576);
  .ask x1
  (
   .leaf true)
  (
   .need ((spec_CountOutputs_need a0)) (
   let x2 := spec_CountOutputs a0;
   .need ((impl_CountOutputs_need a0)) (
   let x3 := impl_CountOutputs a0;
   let x4 := (x3.1 != x2.1);
   .ask x4
   (
    .leaf false)
   (
    let x5 := (x3.2.1 != x2.2.1);
    .ask x5
    (
     .leaf false)
    (
     let x6 := (!(x3.2.2 == x2.2.2));
     .ask x6
     (
      .leaf false)
     (
      .leaf true))))))
def laws_FnExactCountOutputs (a0 : (List UInt8)) : Bool := (laws_FnExactCountOutputs_tree a0).val
def laws_FnExactCountOutputs_need (a0 : (List UInt8)) : Bool := (laws_FnExactCountOutputs_tree a0).ok
def laws_FnExactCountOutputs_mk (p : Bool) : Ret := ⟨.bool p, []⟩
def laws_FnExactCountOutputs_c : Con := fun args => match args with
  | [.str a0] => some (.need (laws_FnExactCountOutputs_need a0) (.leaf (laws_FnExactCountOutputs_mk (laws_FnExactCountOutputs a0))))
  | _ => none
set_option maxRecDepth 100000 in
theorem laws_FnExactCountOutputs_ok : FunOK Tryd.prog 12 laws_FnExactCountOutputs_c.fn := by
  refine con_ok (Γ := gam [(47, spec_CountOutputs_c), (48, impl_CountOutputs_c)]) (gam_cons spec_CountOutputs_ok (gam_cons impl_CountOutputs_ok (gam_nil))) tab_ok (by kernel_rfl) Tryd.func12 (by kernel_rfl) (by kernel_rfl) Tryd.ntmps12 Tryd.results12 (loopsOK_none rfl _) 100000 fun args t h => ?_
  unfold laws_FnExactCountOutputs_c at h
  split at h
  · rename_i a0
    cases h
    exact ⟨rfl, agree_need (mk := laws_FnExactCountOutputs_mk) (t := laws_FnExactCountOutputs_tree a0) (by unfold Agree; kernel_rfl)⟩
  · cases h

end
end Go.Proofs.YtcipkfndnkmjlaaDoor
