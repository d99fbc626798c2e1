/- THE TYPES, BY A PROGRAM: what the evaluator takes from the table of types, and that it stands there. -/
import Derived.Test.YtilfdpllleninaaEngQb
import Derived.Test.YtilfdpllleninaaProg
namespace Go.Proofs.Ytilfdpllleninaa
/-- A string's bytes, as integers. -/
def u8i (l : List UInt8) : List Int := u8s l
theorem z_int {k : IntKind} : ZSim (.int k 0) (.int k 0) := fun c => by simp only [VSim]
theorem z_f32 : ZSim (.flt .f32 0) (.float .f32 0) := fun c => by simp only [VSim]; exact ⟨0, rfl, by decide +kernel⟩
theorem z_f64 : ZSim (.flt .f64 0) (.float .f64 0) := fun c => by simp only [VSim]; exact ⟨0, rfl, by decide +kernel⟩
theorem z_c32 : ZSim (.cplx .f32 0 0) (.complex .f32 0 0) := fun c => by simp only [VSim]; exact ⟨0, 0, rfl, by decide +kernel, by decide +kernel⟩
theorem z_c64 : ZSim (.cplx .f64 0 0) (.complex .f64 0 0) := fun c => by simp only [VSim]; exact ⟨0, 0, rfl, by decide +kernel, by decide +kernel⟩
theorem z_bool : ZSim (.bool false) (.bool false) := fun c => by simp only [VSim]
theorem z_str {s : ByteArray} (h : s.data.toList = []) : ZSim (.str []) (.string s) := fun c => by simp only [VSim]; exact ⟨s, rfl, h⟩
theorem z_nilp : ZSim .nilp (.pointer none) := fun c => by simp only [VSim]
theorem z_nils : ZSim .nils (.slice none 0 0) := fun c => by simp only [VSim]
theorem z_nilf : ZSim .nilf .nilFunc := fun c => by simp only [VSim]
theorem z_nili : ZSim .nili .nilIface := fun c => by simp only [VSim]
theorem ti1 : TIOK Try.prog 1 ⟨.other, 1, 8, [.nilf], none⟩ := ⟨⟨_, Try.underlying1, (fun f h => by cases h), (fun n e h => by cases h)⟩, Try.t1, _, by kernel_rfl, rfl, rfl, rfl, ⟨z_nilf, trivial⟩⟩
theorem ti2 : TIOK Try.prog 2 ⟨.int .i64, 1, 8, [.int .i64 0], some (.int .i64)⟩ := ⟨Try.underlying2, Try.t2, _, by kernel_rfl, rfl, rfl, rfl, ⟨z_int, trivial⟩⟩
theorem ti3 : TIOK Try.prog 3 ⟨.int .i64, 1, 8, [.int .i64 0], some (.int .i64)⟩ := ⟨Try.underlying3, Try.t3, _, by kernel_rfl, rfl, rfl, rfl, ⟨z_int, trivial⟩⟩
theorem ti4 : TIOK Try.prog 4 ⟨.bool, 1, 1, [.bool false], some .bool⟩ := ⟨Try.underlying4, Try.t4, _, by kernel_rfl, rfl, rfl, rfl, ⟨z_bool, trivial⟩⟩
theorem ti5 : TIOK Try.prog 5 ⟨.int .u8, 1, 1, [.int .u8 0], some (.int .u8)⟩ := ⟨Try.underlying5, Try.t5, _, by kernel_rfl, rfl, rfl, rfl, ⟨z_int, trivial⟩⟩
theorem ti6 : TIOK Try.prog 6 ⟨.int .u8, 1, 1, [.int .u8 0], some (.int .u8)⟩ := ⟨Try.underlying6, Try.t6, _, by kernel_rfl, rfl, rfl, rfl, ⟨z_int, trivial⟩⟩
theorem ti7 : TIOK Try.prog 7 ⟨.struct [(0, 2), (1, 3), (2, 4), (3, 6)], 4, 24, [.int .i64 0, .int .i64 0, .bool false, .int .u8 0], none⟩ := ⟨⟨_, Try.underlying7, rfl⟩, Try.t7, _, by kernel_rfl, rfl, rfl, rfl, ⟨z_int, z_int, z_bool, z_int, trivial⟩⟩
theorem ti8 : TIOK Try.prog 8 ⟨.struct [(0, 2), (1, 3), (2, 4), (3, 6)], 4, 24, [.int .i64 0, .int .i64 0, .bool false, .int .u8 0], none⟩ := ⟨⟨_, Try.underlying8, rfl⟩, Try.t8, _, by kernel_rfl, rfl, rfl, rfl, ⟨z_int, z_int, z_bool, z_int, trivial⟩⟩
theorem ti9 : TIOK Try.prog 9 ⟨.str, 1, 16, [.str []], some .str⟩ := ⟨Try.underlying9, Try.t9, _, by kernel_rfl, rfl, rfl, rfl, ⟨z_str rfl, trivial⟩⟩
theorem ti10 : TIOK Try.prog 10 ⟨.str, 1, 16, [.str []], some .str⟩ := ⟨Try.underlying10, Try.t10, _, by kernel_rfl, rfl, rfl, rfl, ⟨z_str rfl, trivial⟩⟩
theorem ti11 : TIOK Try.prog 11 ⟨.str, 1, 16, [.str []], some .str⟩ := ⟨Try.underlying11, Try.t11, _, by kernel_rfl, rfl, rfl, rfl, ⟨z_str rfl, trivial⟩⟩
theorem ti12 : TIOK Try.prog 12 ⟨.int .u64, 1, 8, [.int .u64 0], some (.int .u64)⟩ := ⟨Try.underlying12, Try.t12, _, by kernel_rfl, rfl, rfl, rfl, ⟨z_int, trivial⟩⟩
theorem ti13 : TIOK Try.prog 13 ⟨.struct [(0, 9), (1, 12)], 2, 24, [.str [], .int .u64 0], none⟩ := ⟨⟨_, Try.underlying13, rfl⟩, Try.t13, _, by kernel_rfl, rfl, rfl, rfl, ⟨z_str rfl, z_int, trivial⟩⟩
theorem ti14 : TIOK Try.prog 14 ⟨.struct [(0, 9), (1, 12)], 2, 24, [.str [], .int .u64 0], none⟩ := ⟨⟨_, Try.underlying14, rfl⟩, Try.t14, _, by kernel_rfl, rfl, rfl, rfl, ⟨z_str rfl, z_int, trivial⟩⟩
theorem ti15 : TIOK Try.prog 15 ⟨.ptr 139, 1, 8, [.nilp], none⟩ := ⟨Try.underlying15, Try.t15, _, by kernel_rfl, rfl, rfl, rfl, ⟨z_nilp, trivial⟩⟩
theorem ti16 : TIOK Try.prog 16 ⟨.ptr 142, 1, 8, [.nilp], none⟩ := ⟨Try.underlying16, Try.t16, _, by kernel_rfl, rfl, rfl, rfl, ⟨z_nilp, trivial⟩⟩
theorem ti17 : TIOK Try.prog 17 ⟨.ptr 152, 1, 8, [.nilp], none⟩ := ⟨Try.underlying17, Try.t17, _, by kernel_rfl, rfl, rfl, rfl, ⟨z_nilp, trivial⟩⟩
theorem ti18 : TIOK Try.prog 18 ⟨.struct [(0, 17)], 1, 8, [.nilp], none⟩ := ⟨⟨_, Try.underlying18, rfl⟩, Try.t18, _, by kernel_rfl, rfl, rfl, rfl, ⟨z_nilp, trivial⟩⟩
theorem ti19 : TIOK Try.prog 19 ⟨.struct [(0, 17)], 1, 8, [.nilp], none⟩ := ⟨⟨_, Try.underlying19, rfl⟩, Try.t19, _, by kernel_rfl, rfl, rfl, rfl, ⟨z_nilp, trivial⟩⟩
theorem ti20 : TIOK Try.prog 20 ⟨.other, 1, 16, [.nili], none⟩ := ⟨⟨_, Try.underlying20, (fun f h => by cases h), (fun n e h => by cases h)⟩, Try.t20, _, by kernel_rfl, rfl, rfl, rfl, ⟨z_nili, trivial⟩⟩
theorem ti21 : TIOK Try.prog 21 ⟨.int .i32, 1, 4, [.int .i32 0], some (.int .i32)⟩ := ⟨Try.underlying21, Try.t21, _, by kernel_rfl, rfl, rfl, rfl, ⟨z_int, trivial⟩⟩
theorem ti22 : TIOK Try.prog 22 ⟨.slc 5, 1, 24, [.nils], none⟩ := ⟨Try.underlying22, Try.t22, _, by kernel_rfl, rfl, rfl, rfl, ⟨z_nils, trivial⟩⟩
theorem ti23 : TIOK Try.prog 23 ⟨.other, 1, 8, [.nilf], none⟩ := ⟨⟨_, Try.underlying23, (fun f h => by cases h), (fun n e h => by cases h)⟩, Try.t23, _, by kernel_rfl, rfl, rfl, rfl, ⟨z_nilf, trivial⟩⟩
theorem ti24 : TIOK Try.prog 24 ⟨.flt .f32, 1, 4, [.flt .f32 0], some (.flt .f32)⟩ := ⟨Try.underlying24, Try.t24, _, by kernel_rfl, rfl, rfl, rfl, ⟨z_f32, trivial⟩⟩
theorem ti25 : TIOK Try.prog 25 ⟨.other, 1, 8, [.nilf], none⟩ := ⟨⟨_, Try.underlying25, (fun f h => by cases h), (fun n e h => by cases h)⟩, Try.t25, _, by kernel_rfl, rfl, rfl, rfl, ⟨z_nilf, trivial⟩⟩
theorem ti26 : TIOK Try.prog 26 ⟨.slc 43, 1, 24, [.nils], none⟩ := ⟨Try.underlying26, Try.t26, _, by kernel_rfl, rfl, rfl, rfl, ⟨z_nils, trivial⟩⟩
theorem ti28 : TIOK Try.prog 28 ⟨.other, 1, 8, [.nilf], none⟩ := ⟨⟨_, Try.underlying28, (fun f h => by cases h), (fun n e h => by cases h)⟩, Try.t28, _, by kernel_rfl, rfl, rfl, rfl, ⟨z_nilf, trivial⟩⟩
theorem ti29 : TIOK Try.prog 29 ⟨.other, 1, 8, [.nilf], none⟩ := ⟨⟨_, Try.underlying29, (fun f h => by cases h), (fun n e h => by cases h)⟩, Try.t29, _, by kernel_rfl, rfl, rfl, rfl, ⟨z_nilf, trivial⟩⟩
theorem ti30 : TIOK Try.prog 30 ⟨.struct [(0, 24), (1, 24), (2, 24)], 3, 12, [.flt .f32 0, .flt .f32 0, .flt .f32 0], none⟩ := ⟨⟨_, Try.underlying30, rfl⟩, Try.t30, _, by kernel_rfl, rfl, rfl, rfl, ⟨z_f32, z_f32, z_f32, trivial⟩⟩
theorem ti31 : TIOK Try.prog 31 ⟨.struct [(0, 24), (1, 24), (2, 24)], 3, 12, [.flt .f32 0, .flt .f32 0, .flt .f32 0], some .vec⟩ := ⟨⟨_, Try.underlying31, rfl⟩, Try.t31, _, by kernel_rfl, rfl, rfl, rfl, ⟨z_f32, z_f32, z_f32, trivial⟩⟩
theorem ti33 : TIOK Try.prog 33 ⟨.other, 1, 8, [.nilf], none⟩ := ⟨⟨_, Try.underlying33, (fun f h => by cases h), (fun n e h => by cases h)⟩, Try.t33, _, by kernel_rfl, rfl, rfl, rfl, ⟨z_nilf, trivial⟩⟩
theorem ti35 : TIOK Try.prog 35 ⟨.other, 1, 8, [.nilf], none⟩ := ⟨⟨_, Try.underlying35, (fun f h => by cases h), (fun n e h => by cases h)⟩, Try.t35, _, by kernel_rfl, rfl, rfl, rfl, ⟨z_nilf, trivial⟩⟩
theorem ti37 : TIOK Try.prog 37 ⟨.other, 1, 8, [.nilf], none⟩ := ⟨⟨_, Try.underlying37, (fun f h => by cases h), (fun n e h => by cases h)⟩, Try.t37, _, by kernel_rfl, rfl, rfl, rfl, ⟨z_nilf, trivial⟩⟩
theorem ti38 : TIOK Try.prog 38 ⟨.other, 1, 8, [.nilf], none⟩ := ⟨⟨_, Try.underlying38, (fun f h => by cases h), (fun n e h => by cases h)⟩, Try.t38, _, by kernel_rfl, rfl, rfl, rfl, ⟨z_nilf, trivial⟩⟩
theorem ti39 : TIOK Try.prog 39 ⟨.flt .f64, 1, 8, [.flt .f64 0], some (.flt .f64)⟩ := ⟨Try.underlying39, Try.t39, _, by kernel_rfl, rfl, rfl, rfl, ⟨z_f64, trivial⟩⟩
theorem ti40 : TIOK Try.prog 40 ⟨.other, 1, 8, [.nilf], none⟩ := ⟨⟨_, Try.underlying40, (fun f h => by cases h), (fun n e h => by cases h)⟩, Try.t40, _, by kernel_rfl, rfl, rfl, rfl, ⟨z_nilf, trivial⟩⟩
theorem ti41 : TIOK Try.prog 41 ⟨.other, 1, 8, [.nilf], none⟩ := ⟨⟨_, Try.underlying41, (fun f h => by cases h), (fun n e h => by cases h)⟩, Try.t41, _, by kernel_rfl, rfl, rfl, rfl, ⟨z_nilf, trivial⟩⟩
theorem ti42 : TIOK Try.prog 42 ⟨.struct [(0, 31), (3, 31), (6, 24)], 7, 28, [.flt .f32 0, .flt .f32 0, .flt .f32 0, .flt .f32 0, .flt .f32 0, .flt .f32 0, .flt .f32 0], none⟩ := ⟨⟨_, Try.underlying42, rfl⟩, Try.t42, _, by kernel_rfl, rfl, rfl, rfl, ⟨z_f32, z_f32, z_f32, z_f32, z_f32, z_f32, z_f32, trivial⟩⟩
theorem ti43 : TIOK Try.prog 43 ⟨.struct [(0, 31), (3, 31), (6, 24)], 7, 28, [.flt .f32 0, .flt .f32 0, .flt .f32 0, .flt .f32 0, .flt .f32 0, .flt .f32 0, .flt .f32 0], some .body⟩ := ⟨⟨_, Try.underlying43, rfl⟩, Try.t43, _, by kernel_rfl, rfl, rfl, rfl, ⟨z_f32, z_f32, z_f32, z_f32, z_f32, z_f32, z_f32, trivial⟩⟩
theorem ti44 : TIOK Try.prog 44 ⟨.other, 1, 8, [.nilf], none⟩ := ⟨⟨_, Try.underlying44, (fun f h => by cases h), (fun n e h => by cases h)⟩, Try.t44, _, by kernel_rfl, rfl, rfl, rfl, ⟨z_nilf, trivial⟩⟩
theorem ti45 : TIOK Try.prog 45 ⟨.other, 1, 8, [.nilf], none⟩ := ⟨⟨_, Try.underlying45, (fun f h => by cases h), (fun n e h => by cases h)⟩, Try.t45, _, by kernel_rfl, rfl, rfl, rfl, ⟨z_nilf, trivial⟩⟩
theorem ti47 : TIOK Try.prog 47 ⟨.other, 1, 8, [.nilf], none⟩ := ⟨⟨_, Try.underlying47, (fun f h => by cases h), (fun n e h => by cases h)⟩, Try.t47, _, by kernel_rfl, rfl, rfl, rfl, ⟨z_nilf, trivial⟩⟩
theorem ti49 : TIOK Try.prog 49 ⟨.other, 1, 8, [.nilf], none⟩ := ⟨⟨_, Try.underlying49, (fun f h => by cases h), (fun n e h => by cases h)⟩, Try.t49, _, by kernel_rfl, rfl, rfl, rfl, ⟨z_nilf, trivial⟩⟩
theorem ti50 : TIOK Try.prog 50 ⟨.struct [(0, 24), (1, 24), (2, 24), (3, 24), (4, 24), (5, 24)], 6, 24, [.flt .f32 0, .flt .f32 0, .flt .f32 0, .flt .f32 0, .flt .f32 0, .flt .f32 0], none⟩ := ⟨⟨_, Try.underlying50, rfl⟩, Try.t50, _, by kernel_rfl, rfl, rfl, rfl, ⟨z_f32, z_f32, z_f32, z_f32, z_f32, z_f32, trivial⟩⟩
theorem ti51 : TIOK Try.prog 51 ⟨.struct [(0, 24), (1, 24), (2, 24), (3, 24), (4, 24), (5, 24)], 6, 24, [.flt .f32 0, .flt .f32 0, .flt .f32 0, .flt .f32 0, .flt .f32 0, .flt .f32 0], none⟩ := ⟨⟨_, Try.underlying51, rfl⟩, Try.t51, _, by kernel_rfl, rfl, rfl, rfl, ⟨z_f32, z_f32, z_f32, z_f32, z_f32, z_f32, trivial⟩⟩
theorem ti52 : TIOK Try.prog 52 ⟨.other, 1, 8, [.nilf], none⟩ := ⟨⟨_, Try.underlying52, (fun f h => by cases h), (fun n e h => by cases h)⟩, Try.t52, _, by kernel_rfl, rfl, rfl, rfl, ⟨z_nilf, trivial⟩⟩
theorem ti53 : TIOK Try.prog 53 ⟨.other, 1, 8, [.nilf], none⟩ := ⟨⟨_, Try.underlying53, (fun f h => by cases h), (fun n e h => by cases h)⟩, Try.t53, _, by kernel_rfl, rfl, rfl, rfl, ⟨z_nilf, trivial⟩⟩
theorem ti55 : TIOK Try.prog 55 ⟨.other, 1, 8, [.nilf], none⟩ := ⟨⟨_, Try.underlying55, (fun f h => by cases h), (fun n e h => by cases h)⟩, Try.t55, _, by kernel_rfl, rfl, rfl, rfl, ⟨z_nilf, trivial⟩⟩
theorem ti56 : TIOK Try.prog 56 ⟨.cplx .f32, 1, 8, [.cplx .f32 0 0], some (.cplx .f32)⟩ := ⟨Try.underlying56, Try.t56, _, by kernel_rfl, rfl, rfl, rfl, ⟨z_c32, trivial⟩⟩
theorem ti58 : TIOK Try.prog 58 ⟨.other, 1, 8, [.nilf], none⟩ := ⟨⟨_, Try.underlying58, (fun f h => by cases h), (fun n e h => by cases h)⟩, Try.t58, _, by kernel_rfl, rfl, rfl, rfl, ⟨z_nilf, trivial⟩⟩
theorem ti60 : TIOK Try.prog 60 ⟨.other, 1, 8, [.nilf], none⟩ := ⟨⟨_, Try.underlying60, (fun f h => by cases h), (fun n e h => by cases h)⟩, Try.t60, _, by kernel_rfl, rfl, rfl, rfl, ⟨z_nilf, trivial⟩⟩
theorem ti61 : TIOK Try.prog 61 ⟨.other, 1, 8, [.nilf], none⟩ := ⟨⟨_, Try.underlying61, (fun f h => by cases h), (fun n e h => by cases h)⟩, Try.t61, _, by kernel_rfl, rfl, rfl, rfl, ⟨z_nilf, trivial⟩⟩
theorem ti62 : TIOK Try.prog 62 ⟨.other, 1, 8, [.nilf], none⟩ := ⟨⟨_, Try.underlying62, (fun f h => by cases h), (fun n e h => by cases h)⟩, Try.t62, _, by kernel_rfl, rfl, rfl, rfl, ⟨z_nilf, trivial⟩⟩
theorem ti64 : TIOK Try.prog 64 ⟨.other, 1, 8, [.nilf], none⟩ := ⟨⟨_, Try.underlying64, (fun f h => by cases h), (fun n e h => by cases h)⟩, Try.t64, _, by kernel_rfl, rfl, rfl, rfl, ⟨z_nilf, trivial⟩⟩
theorem ti65 : TIOK Try.prog 65 ⟨.other, 1, 8, [.nilf], none⟩ := ⟨⟨_, Try.underlying65, (fun f h => by cases h), (fun n e h => by cases h)⟩, Try.t65, _, by kernel_rfl, rfl, rfl, rfl, ⟨z_nilf, trivial⟩⟩
theorem ti66 : TIOK Try.prog 66 ⟨.other, 1, 8, [.nilf], none⟩ := ⟨⟨_, Try.underlying66, (fun f h => by cases h), (fun n e h => by cases h)⟩, Try.t66, _, by kernel_rfl, rfl, rfl, rfl, ⟨z_nilf, trivial⟩⟩
theorem ti67 : TIOK Try.prog 67 ⟨.other, 1, 8, [.nilf], none⟩ := ⟨⟨_, Try.underlying67, (fun f h => by cases h), (fun n e h => by cases h)⟩, Try.t67, _, by kernel_rfl, rfl, rfl, rfl, ⟨z_nilf, trivial⟩⟩
theorem ti68 : TIOK Try.prog 68 ⟨.other, 1, 8, [.nilf], none⟩ := ⟨⟨_, Try.underlying68, (fun f h => by cases h), (fun n e h => by cases h)⟩, Try.t68, _, by kernel_rfl, rfl, rfl, rfl, ⟨z_nilf, trivial⟩⟩
theorem ti69 : TIOK Try.prog 69 ⟨.other, 1, 8, [.nilf], none⟩ := ⟨⟨_, Try.underlying69, (fun f h => by cases h), (fun n e h => by cases h)⟩, Try.t69, _, by kernel_rfl, rfl, rfl, rfl, ⟨z_nilf, trivial⟩⟩
theorem ti70 : TIOK Try.prog 70 ⟨.other, 1, 8, [.nilf], none⟩ := ⟨⟨_, Try.underlying70, (fun f h => by cases h), (fun n e h => by cases h)⟩, Try.t70, _, by kernel_rfl, rfl, rfl, rfl, ⟨z_nilf, trivial⟩⟩
theorem ti71 : TIOK Try.prog 71 ⟨.other, 1, 8, [.nilf], none⟩ := ⟨⟨_, Try.underlying71, (fun f h => by cases h), (fun n e h => by cases h)⟩, Try.t71, _, by kernel_rfl, rfl, rfl, rfl, ⟨z_nilf, trivial⟩⟩
theorem ti72 : TIOK Try.prog 72 ⟨.other, 1, 8, [.nilf], none⟩ := ⟨⟨_, Try.underlying72, (fun f h => by cases h), (fun n e h => by cases h)⟩, Try.t72, _, by kernel_rfl, rfl, rfl, rfl, ⟨z_nilf, trivial⟩⟩
theorem ti73 : TIOK Try.prog 73 ⟨.other, 1, 8, [.nilf], none⟩ := ⟨⟨_, Try.underlying73, (fun f h => by cases h), (fun n e h => by cases h)⟩, Try.t73, _, by kernel_rfl, rfl, rfl, rfl, ⟨z_nilf, trivial⟩⟩
theorem ti74 : TIOK Try.prog 74 ⟨.other, 1, 8, [.nilf], none⟩ := ⟨⟨_, Try.underlying74, (fun f h => by cases h), (fun n e h => by cases h)⟩, Try.t74, _, by kernel_rfl, rfl, rfl, rfl, ⟨z_nilf, trivial⟩⟩
theorem ti75 : TIOK Try.prog 75 ⟨.other, 1, 8, [.nilf], none⟩ := ⟨⟨_, Try.underlying75, (fun f h => by cases h), (fun n e h => by cases h)⟩, Try.t75, _, by kernel_rfl, rfl, rfl, rfl, ⟨z_nilf, trivial⟩⟩
theorem ti76 : TIOK Try.prog 76 ⟨.other, 1, 8, [.nilf], none⟩ := ⟨⟨_, Try.underlying76, (fun f h => by cases h), (fun n e h => by cases h)⟩, Try.t76, _, by kernel_rfl, rfl, rfl, rfl, ⟨z_nilf, trivial⟩⟩
theorem ti77 : TIOK Try.prog 77 ⟨.other, 1, 8, [.nilf], none⟩ := ⟨⟨_, Try.underlying77, (fun f h => by cases h), (fun n e h => by cases h)⟩, Try.t77, _, by kernel_rfl, rfl, rfl, rfl, ⟨z_nilf, trivial⟩⟩
theorem ti78 : TIOK Try.prog 78 ⟨.other, 1, 8, [.nilf], none⟩ := ⟨⟨_, Try.underlying78, (fun f h => by cases h), (fun n e h => by cases h)⟩, Try.t78, _, by kernel_rfl, rfl, rfl, rfl, ⟨z_nilf, trivial⟩⟩
theorem ti79 : TIOK Try.prog 79 ⟨.other, 1, 8, [.nilf], none⟩ := ⟨⟨_, Try.underlying79, (fun f h => by cases h), (fun n e h => by cases h)⟩, Try.t79, _, by kernel_rfl, rfl, rfl, rfl, ⟨z_nilf, trivial⟩⟩
theorem ti81 : TIOK Try.prog 81 ⟨.other, 1, 8, [.nilf], none⟩ := ⟨⟨_, Try.underlying81, (fun f h => by cases h), (fun n e h => by cases h)⟩, Try.t81, _, by kernel_rfl, rfl, rfl, rfl, ⟨z_nilf, trivial⟩⟩
theorem ti82 : TIOK Try.prog 82 ⟨.ptr 114, 1, 8, [.nilp], none⟩ := ⟨Try.underlying82, Try.t82, _, by kernel_rfl, rfl, rfl, rfl, ⟨z_nilp, trivial⟩⟩
theorem ti83 : TIOK Try.prog 83 ⟨.other, 1, 8, [.nilf], none⟩ := ⟨⟨_, Try.underlying83, (fun f h => by cases h), (fun n e h => by cases h)⟩, Try.t83, _, by kernel_rfl, rfl, rfl, rfl, ⟨z_nilf, trivial⟩⟩
theorem ti84 : TIOK Try.prog 84 ⟨.other, 1, 8, [.nilf], none⟩ := ⟨⟨_, Try.underlying84, (fun f h => by cases h), (fun n e h => by cases h)⟩, Try.t84, _, by kernel_rfl, rfl, rfl, rfl, ⟨z_nilf, trivial⟩⟩
theorem ti85 : TIOK Try.prog 85 ⟨.other, 1, 8, [.nilf], none⟩ := ⟨⟨_, Try.underlying85, (fun f h => by cases h), (fun n e h => by cases h)⟩, Try.t85, _, by kernel_rfl, rfl, rfl, rfl, ⟨z_nilf, trivial⟩⟩
theorem ti86 : TIOK Try.prog 86 ⟨.other, 1, 8, [.nilf], none⟩ := ⟨⟨_, Try.underlying86, (fun f h => by cases h), (fun n e h => by cases h)⟩, Try.t86, _, by kernel_rfl, rfl, rfl, rfl, ⟨z_nilf, trivial⟩⟩
theorem ti87 : TIOK Try.prog 87 ⟨.other, 1, 8, [.nilf], none⟩ := ⟨⟨_, Try.underlying87, (fun f h => by cases h), (fun n e h => by cases h)⟩, Try.t87, _, by kernel_rfl, rfl, rfl, rfl, ⟨z_nilf, trivial⟩⟩
theorem ti89 : TIOK Try.prog 89 ⟨.other, 1, 8, [.nilf], none⟩ := ⟨⟨_, Try.underlying89, (fun f h => by cases h), (fun n e h => by cases h)⟩, Try.t89, _, by kernel_rfl, rfl, rfl, rfl, ⟨z_nilf, trivial⟩⟩
theorem ti90 : TIOK Try.prog 90 ⟨.other, 1, 8, [.nilf], none⟩ := ⟨⟨_, Try.underlying90, (fun f h => by cases h), (fun n e h => by cases h)⟩, Try.t90, _, by kernel_rfl, rfl, rfl, rfl, ⟨z_nilf, trivial⟩⟩
theorem ti92 : TIOK Try.prog 92 ⟨.other, 1, 8, [.nilf], none⟩ := ⟨⟨_, Try.underlying92, (fun f h => by cases h), (fun n e h => by cases h)⟩, Try.t92, _, by kernel_rfl, rfl, rfl, rfl, ⟨z_nilf, trivial⟩⟩
theorem ti93 : TIOK Try.prog 93 ⟨.other, 1, 8, [.nilf], none⟩ := ⟨⟨_, Try.underlying93, (fun f h => by cases h), (fun n e h => by cases h)⟩, Try.t93, _, by kernel_rfl, rfl, rfl, rfl, ⟨z_nilf, trivial⟩⟩
theorem ti94 : TIOK Try.prog 94 ⟨.arr 3 39, 3, 24, [.flt .f64 0, .flt .f64 0, .flt .f64 0], none⟩ := ⟨Try.underlying94, Try.t94, _, by kernel_rfl, rfl, rfl, rfl, ⟨z_f64, z_f64, z_f64, trivial⟩⟩
theorem ti95 : TIOK Try.prog 95 ⟨.arr 3 39, 3, 24, [.flt .f64 0, .flt .f64 0, .flt .f64 0], none⟩ := ⟨Try.underlying95, Try.t95, _, by kernel_rfl, rfl, rfl, rfl, ⟨z_f64, z_f64, z_f64, trivial⟩⟩
theorem ti96 : TIOK Try.prog 96 ⟨.other, 1, 8, [.nilf], none⟩ := ⟨⟨_, Try.underlying96, (fun f h => by cases h), (fun n e h => by cases h)⟩, Try.t96, _, by kernel_rfl, rfl, rfl, rfl, ⟨z_nilf, trivial⟩⟩
theorem ti97 : TIOK Try.prog 97 ⟨.other, 1, 8, [.nilf], none⟩ := ⟨⟨_, Try.underlying97, (fun f h => by cases h), (fun n e h => by cases h)⟩, Try.t97, _, by kernel_rfl, rfl, rfl, rfl, ⟨z_nilf, trivial⟩⟩
theorem ti98 : TIOK Try.prog 98 ⟨.other, 1, 8, [.nilf], none⟩ := ⟨⟨_, Try.underlying98, (fun f h => by cases h), (fun n e h => by cases h)⟩, Try.t98, _, by kernel_rfl, rfl, rfl, rfl, ⟨z_nilf, trivial⟩⟩
theorem ti99 : TIOK Try.prog 99 ⟨.other, 1, 8, [.nilf], none⟩ := ⟨⟨_, Try.underlying99, (fun f h => by cases h), (fun n e h => by cases h)⟩, Try.t99, _, by kernel_rfl, rfl, rfl, rfl, ⟨z_nilf, trivial⟩⟩
theorem ti100 : TIOK Try.prog 100 ⟨.other, 1, 8, [.nilf], none⟩ := ⟨⟨_, Try.underlying100, (fun f h => by cases h), (fun n e h => by cases h)⟩, Try.t100, _, by kernel_rfl, rfl, rfl, rfl, ⟨z_nilf, trivial⟩⟩
theorem ti101 : TIOK Try.prog 101 ⟨.other, 1, 8, [.nilf], none⟩ := ⟨⟨_, Try.underlying101, (fun f h => by cases h), (fun n e h => by cases h)⟩, Try.t101, _, by kernel_rfl, rfl, rfl, rfl, ⟨z_nilf, trivial⟩⟩
theorem ti102 : TIOK Try.prog 102 ⟨.other, 1, 8, [.nilf], none⟩ := ⟨⟨_, Try.underlying102, (fun f h => by cases h), (fun n e h => by cases h)⟩, Try.t102, _, by kernel_rfl, rfl, rfl, rfl, ⟨z_nilf, trivial⟩⟩
theorem ti103 : TIOK Try.prog 103 ⟨.other, 1, 8, [.nilf], none⟩ := ⟨⟨_, Try.underlying103, (fun f h => by cases h), (fun n e h => by cases h)⟩, Try.t103, _, by kernel_rfl, rfl, rfl, rfl, ⟨z_nilf, trivial⟩⟩
theorem ti104 : TIOK Try.prog 104 ⟨.other, 1, 8, [.nilf], none⟩ := ⟨⟨_, Try.underlying104, (fun f h => by cases h), (fun n e h => by cases h)⟩, Try.t104, _, by kernel_rfl, rfl, rfl, rfl, ⟨z_nilf, trivial⟩⟩
theorem ti105 : TIOK Try.prog 105 ⟨.other, 1, 8, [.nilf], none⟩ := ⟨⟨_, Try.underlying105, (fun f h => by cases h), (fun n e h => by cases h)⟩, Try.t105, _, by kernel_rfl, rfl, rfl, rfl, ⟨z_nilf, trivial⟩⟩
theorem ti106 : TIOK Try.prog 106 ⟨.other, 1, 8, [.nilf], none⟩ := ⟨⟨_, Try.underlying106, (fun f h => by cases h), (fun n e h => by cases h)⟩, Try.t106, _, by kernel_rfl, rfl, rfl, rfl, ⟨z_nilf, trivial⟩⟩
theorem ti107 : TIOK Try.prog 107 ⟨.other, 1, 8, [.nilf], none⟩ := ⟨⟨_, Try.underlying107, (fun f h => by cases h), (fun n e h => by cases h)⟩, Try.t107, _, by kernel_rfl, rfl, rfl, rfl, ⟨z_nilf, trivial⟩⟩
theorem ti108 : TIOK Try.prog 108 ⟨.other, 1, 8, [.nilf], none⟩ := ⟨⟨_, Try.underlying108, (fun f h => by cases h), (fun n e h => by cases h)⟩, Try.t108, _, by kernel_rfl, rfl, rfl, rfl, ⟨z_nilf, trivial⟩⟩
theorem ti109 : TIOK Try.prog 109 ⟨.slc 2, 1, 24, [.nils], none⟩ := ⟨Try.underlying109, Try.t109, _, by kernel_rfl, rfl, rfl, rfl, ⟨z_nils, trivial⟩⟩
theorem ti110 : TIOK Try.prog 110 ⟨.other, 1, 8, [.nilf], none⟩ := ⟨⟨_, Try.underlying110, (fun f h => by cases h), (fun n e h => by cases h)⟩, Try.t110, _, by kernel_rfl, rfl, rfl, rfl, ⟨z_nilf, trivial⟩⟩
theorem ti111 : TIOK Try.prog 111 ⟨.other, 1, 8, [.nilf], none⟩ := ⟨⟨_, Try.underlying111, (fun f h => by cases h), (fun n e h => by cases h)⟩, Try.t111, _, by kernel_rfl, rfl, rfl, rfl, ⟨z_nilf, trivial⟩⟩
theorem ti112 : TIOK Try.prog 112 ⟨.int .u64, 1, 8, [.int .u64 0], some (.int .u64)⟩ := ⟨Try.underlying112, Try.t112, _, by kernel_rfl, rfl, rfl, rfl, ⟨z_int, trivial⟩⟩
theorem ti113 : TIOK Try.prog 113 ⟨.struct [(0, 22), (1, 3), (2, 112)], 3, 40, [.nils, .int .i64 0, .int .u64 0], none⟩ := ⟨⟨_, Try.underlying113, rfl⟩, Try.t113, _, by kernel_rfl, rfl, rfl, rfl, ⟨z_nils, z_int, z_int, trivial⟩⟩
theorem ti114 : TIOK Try.prog 114 ⟨.struct [(0, 22), (1, 3), (2, 112)], 3, 40, [.nils, .int .i64 0, .int .u64 0], none⟩ := ⟨⟨_, Try.underlying114, rfl⟩, Try.t114, _, by kernel_rfl, rfl, rfl, rfl, ⟨z_nils, z_int, z_int, trivial⟩⟩
theorem ti115 : TIOK Try.prog 115 ⟨.other, 1, 8, [.nilf], none⟩ := ⟨⟨_, Try.underlying115, (fun f h => by cases h), (fun n e h => by cases h)⟩, Try.t115, _, by kernel_rfl, rfl, rfl, rfl, ⟨z_nilf, trivial⟩⟩
theorem ti116 : TIOK Try.prog 116 ⟨.slc 24, 1, 24, [.nils], none⟩ := ⟨Try.underlying116, Try.t116, _, by kernel_rfl, rfl, rfl, rfl, ⟨z_nils, trivial⟩⟩
theorem ti117 : TIOK Try.prog 117 ⟨.other, 1, 8, [.nilf], none⟩ := ⟨⟨_, Try.underlying117, (fun f h => by cases h), (fun n e h => by cases h)⟩, Try.t117, _, by kernel_rfl, rfl, rfl, rfl, ⟨z_nilf, trivial⟩⟩
theorem ti118 : TIOK Try.prog 118 ⟨.other, 1, 8, [.nilf], none⟩ := ⟨⟨_, Try.underlying118, (fun f h => by cases h), (fun n e h => by cases h)⟩, Try.t118, _, by kernel_rfl, rfl, rfl, rfl, ⟨z_nilf, trivial⟩⟩
theorem ti119 : TIOK Try.prog 119 ⟨.other, 1, 8, [.nilf], none⟩ := ⟨⟨_, Try.underlying119, (fun f h => by cases h), (fun n e h => by cases h)⟩, Try.t119, _, by kernel_rfl, rfl, rfl, rfl, ⟨z_nilf, trivial⟩⟩
theorem ti120 : TIOK Try.prog 120 ⟨.other, 1, 8, [.nilf], none⟩ := ⟨⟨_, Try.underlying120, (fun f h => by cases h), (fun n e h => by cases h)⟩, Try.t120, _, by kernel_rfl, rfl, rfl, rfl, ⟨z_nilf, trivial⟩⟩
theorem ti121 : TIOK Try.prog 121 ⟨.other, 1, 8, [.nilf], none⟩ := ⟨⟨_, Try.underlying121, (fun f h => by cases h), (fun n e h => by cases h)⟩, Try.t121, _, by kernel_rfl, rfl, rfl, rfl, ⟨z_nilf, trivial⟩⟩
theorem ti122 : TIOK Try.prog 122 ⟨.other, 1, 8, [.nilf], none⟩ := ⟨⟨_, Try.underlying122, (fun f h => by cases h), (fun n e h => by cases h)⟩, Try.t122, _, by kernel_rfl, rfl, rfl, rfl, ⟨z_nilf, trivial⟩⟩
theorem ti123 : TIOK Try.prog 123 ⟨.other, 1, 8, [.nilf], none⟩ := ⟨⟨_, Try.underlying123, (fun f h => by cases h), (fun n e h => by cases h)⟩, Try.t123, _, by kernel_rfl, rfl, rfl, rfl, ⟨z_nilf, trivial⟩⟩
theorem ti124 : TIOK Try.prog 124 ⟨.other, 1, 8, [.nilf], none⟩ := ⟨⟨_, Try.underlying124, (fun f h => by cases h), (fun n e h => by cases h)⟩, Try.t124, _, by kernel_rfl, rfl, rfl, rfl, ⟨z_nilf, trivial⟩⟩
theorem ti125 : TIOK Try.prog 125 ⟨.slc 31, 1, 24, [.nils], none⟩ := ⟨Try.underlying125, Try.t125, _, by kernel_rfl, rfl, rfl, rfl, ⟨z_nils, trivial⟩⟩
theorem ti127 : TIOK Try.prog 127 ⟨.other, 1, 8, [.nilf], none⟩ := ⟨⟨_, Try.underlying127, (fun f h => by cases h), (fun n e h => by cases h)⟩, Try.t127, _, by kernel_rfl, rfl, rfl, rfl, ⟨z_nilf, trivial⟩⟩
theorem ti128 : TIOK Try.prog 128 ⟨.other, 1, 8, [.nilf], none⟩ := ⟨⟨_, Try.underlying128, (fun f h => by cases h), (fun n e h => by cases h)⟩, Try.t128, _, by kernel_rfl, rfl, rfl, rfl, ⟨z_nilf, trivial⟩⟩
theorem ti129 : TIOK Try.prog 129 ⟨.other, 1, 8, [.nilf], none⟩ := ⟨⟨_, Try.underlying129, (fun f h => by cases h), (fun n e h => by cases h)⟩, Try.t129, _, by kernel_rfl, rfl, rfl, rfl, ⟨z_nilf, trivial⟩⟩
theorem ti130 : TIOK Try.prog 130 ⟨.other, 1, 8, [.nilf], none⟩ := ⟨⟨_, Try.underlying130, (fun f h => by cases h), (fun n e h => by cases h)⟩, Try.t130, _, by kernel_rfl, rfl, rfl, rfl, ⟨z_nilf, trivial⟩⟩
theorem ti131 : TIOK Try.prog 131 ⟨.int .u64, 1, 8, [.int .u64 0], some (.int .u64)⟩ := ⟨Try.underlying131, Try.t131, _, by kernel_rfl, rfl, rfl, rfl, ⟨z_int, trivial⟩⟩
theorem ti132 : TIOK Try.prog 132 ⟨.other, 1, 8, [.nilf], none⟩ := ⟨⟨_, Try.underlying132, (fun f h => by cases h), (fun n e h => by cases h)⟩, Try.t132, _, by kernel_rfl, rfl, rfl, rfl, ⟨z_nilf, trivial⟩⟩
theorem ti134 : TIOK Try.prog 134 ⟨.other, 1, 8, [.nilf], none⟩ := ⟨⟨_, Try.underlying134, (fun f h => by cases h), (fun n e h => by cases h)⟩, Try.t134, _, by kernel_rfl, rfl, rfl, rfl, ⟨z_nilf, trivial⟩⟩
theorem ti135 : TIOK Try.prog 135 ⟨.other, 1, 8, [.nilf], none⟩ := ⟨⟨_, Try.underlying135, (fun f h => by cases h), (fun n e h => by cases h)⟩, Try.t135, _, by kernel_rfl, rfl, rfl, rfl, ⟨z_nilf, trivial⟩⟩
theorem ti136 : TIOK Try.prog 136 ⟨.other, 1, 8, [.nilf], none⟩ := ⟨⟨_, Try.underlying136, (fun f h => by cases h), (fun n e h => by cases h)⟩, Try.t136, _, by kernel_rfl, rfl, rfl, rfl, ⟨z_nilf, trivial⟩⟩
theorem ti137 : TIOK Try.prog 137 ⟨.other, 1, 8, [.nilf], none⟩ := ⟨⟨_, Try.underlying137, (fun f h => by cases h), (fun n e h => by cases h)⟩, Try.t137, _, by kernel_rfl, rfl, rfl, rfl, ⟨z_nilf, trivial⟩⟩
theorem ti138 : TIOK Try.prog 138 ⟨.struct [(0, 17), (1, 17), (2, 17), (3, 9)], 4, 40, [.nilp, .nilp, .nilp, .str []], none⟩ := ⟨⟨_, Try.underlying138, rfl⟩, Try.t138, _, by kernel_rfl, rfl, rfl, rfl, ⟨z_nilp, z_nilp, z_nilp, z_str rfl, trivial⟩⟩
theorem ti139 : TIOK Try.prog 139 ⟨.struct [(0, 17), (1, 17), (2, 17), (3, 9)], 4, 40, [.nilp, .nilp, .nilp, .str []], none⟩ := ⟨⟨_, Try.underlying139, rfl⟩, Try.t139, _, by kernel_rfl, rfl, rfl, rfl, ⟨z_nilp, z_nilp, z_nilp, z_str rfl, trivial⟩⟩
theorem ti140 : TIOK Try.prog 140 ⟨.arr 0 16, 0, 0, [], none⟩ := ⟨Try.underlying140, Try.t140, _, by kernel_rfl, rfl, rfl, rfl, trivial⟩
theorem ti141 : TIOK Try.prog 141 ⟨.struct [(0, 140)], 0, 0, [], none⟩ := ⟨⟨_, Try.underlying141, rfl⟩, Try.t141, _, by kernel_rfl, rfl, rfl, rfl, trivial⟩
theorem ti142 : TIOK Try.prog 142 ⟨.struct [(0, 140)], 0, 0, [], none⟩ := ⟨⟨_, Try.underlying142, rfl⟩, Try.t142, _, by kernel_rfl, rfl, rfl, rfl, trivial⟩
theorem ti143 : TIOK Try.prog 143 ⟨.other, 1, 8, [.nilf], none⟩ := ⟨⟨_, Try.underlying143, (fun f h => by cases h), (fun n e h => by cases h)⟩, Try.t143, _, by kernel_rfl, rfl, rfl, rfl, ⟨z_nilf, trivial⟩⟩
theorem ti144 : TIOK Try.prog 144 ⟨.int .u32, 1, 4, [.int .u32 0], some (.int .u32)⟩ := ⟨Try.underlying144, Try.t144, _, by kernel_rfl, rfl, rfl, rfl, ⟨z_int, trivial⟩⟩
theorem ti145 : TIOK Try.prog 145 ⟨.int .u8, 1, 1, [.int .u8 0], some (.int .u8)⟩ := ⟨Try.underlying145, Try.t145, _, by kernel_rfl, rfl, rfl, rfl, ⟨z_int, trivial⟩⟩
theorem ti146 : TIOK Try.prog 146 ⟨.int .u8, 1, 1, [.int .u8 0], some (.int .u8)⟩ := ⟨Try.underlying146, Try.t146, _, by kernel_rfl, rfl, rfl, rfl, ⟨z_int, trivial⟩⟩
theorem ti147 : TIOK Try.prog 147 ⟨.other, 1, 8, [.nilf], none⟩ := ⟨⟨_, Try.underlying147, (fun f h => by cases h), (fun n e h => by cases h)⟩, Try.t147, _, by kernel_rfl, rfl, rfl, rfl, ⟨z_nilf, trivial⟩⟩
theorem ti148 : TIOK Try.prog 148 ⟨.ptr 5, 1, 8, [.nilp], none⟩ := ⟨Try.underlying148, Try.t148, _, by kernel_rfl, rfl, rfl, rfl, ⟨z_nilp, trivial⟩⟩
theorem ti149 : TIOK Try.prog 149 ⟨.int .i32, 1, 4, [.int .i32 0], some (.int .i32)⟩ := ⟨Try.underlying149, Try.t149, _, by kernel_rfl, rfl, rfl, rfl, ⟨z_int, trivial⟩⟩
theorem ti150 : TIOK Try.prog 150 ⟨.int .i32, 1, 4, [.int .i32 0], some (.int .i32)⟩ := ⟨Try.underlying150, Try.t150, _, by kernel_rfl, rfl, rfl, rfl, ⟨z_int, trivial⟩⟩
theorem ti151 : TIOK Try.prog 151 ⟨.struct [(0, 12), (1, 12), (2, 144), (3, 145), (4, 5), (5, 5), (6, 146), (7, 147), (8, 148), (9, 149), (10, 150)], 11, 48, [.int .u64 0, .int .u64 0, .int .u32 0, .int .u8 0, .int .u8 0, .int .u8 0, .int .u8 0, .nilf, .nilp, .int .i32 0, .int .i32 0], none⟩ := ⟨⟨_, Try.underlying151, rfl⟩, Try.t151, _, by kernel_rfl, rfl, rfl, rfl, ⟨z_int, z_int, z_int, z_int, z_int, z_int, z_int, z_nilf, z_nilp, z_int, z_int, trivial⟩⟩
theorem ti152 : TIOK Try.prog 152 ⟨.struct [(0, 12), (1, 12), (2, 144), (3, 145), (4, 5), (5, 5), (6, 146), (7, 147), (8, 148), (9, 149), (10, 150)], 11, 48, [.int .u64 0, .int .u64 0, .int .u32 0, .int .u8 0, .int .u8 0, .int .u8 0, .int .u8 0, .nilf, .nilp, .int .i32 0, .int .i32 0], none⟩ := ⟨⟨_, Try.underlying152, rfl⟩, Try.t152, _, by kernel_rfl, rfl, rfl, rfl, ⟨z_int, z_int, z_int, z_int, z_int, z_int, z_int, z_nilf, z_nilp, z_int, z_int, trivial⟩⟩
theorem ti153 : TIOK Try.prog 153 ⟨.other, 1, 8, [.nilp], none⟩ := ⟨⟨_, Try.underlying153, (fun f h => by cases h), (fun n e h => by cases h)⟩, Try.t153, _, by kernel_rfl, rfl, rfl, rfl, ⟨z_nilp, trivial⟩⟩
def tget : List (Nat × TI) → TT
  | [], _ => none
  | (n, i) :: r, t => bif n == t then some i else tget r t
def tget2 : List (List (Nat × TI)) → TT
  | [], _ => none
  | l :: r, t => match tget l t with
    | some i => some i
    | none => tget2 r t
def AllT (P : Program) : List (Nat × TI) → Prop
  | [] => True
  | x :: r => TIOK P x.1 x.2 ∧ AllT P r
def AllT2 (P : Program) : List (List (Nat × TI)) → Prop
  | [] => True
  | x :: r => AllT P x ∧ AllT2 P r
theorem tget_ok {P : Program} : ∀ (l : List (Nat × TI)), AllT P l → TTOK P (tget l)
  | [], _ => fun t i h => by simp [tget] at h
  | (n, j) :: r, hl => fun t i h => by
    simp only [tget, cond_eq_ite, beq_iff_eq] at h
    by_cases q : n = t
    · rw [if_pos q] at h; cases h; subst q; exact hl.1
    · rw [if_neg q] at h; exact tget_ok r hl.2 t i h
theorem tget2_ok {P : Program} : ∀ (l : List (List (Nat × TI))), AllT2 P l → TTOK P (tget2 l)
  | [], _ => fun t i h => by simp [tget2] at h
  | x :: r, hl => fun t i h => by
    simp only [tget2] at h
    split at h
    · rename_i j hj; cases h; exact tget_ok x hl.1 t _ hj
    · exact tget2_ok r hl.2 t i h
def tl0 : List (Nat × TI) := [
(1, ⟨.other, 1, 8, [.nilf], none⟩),
(2, ⟨.int .i64, 1, 8, [.int .i64 0], some (.int .i64)⟩),
(3, ⟨.int .i64, 1, 8, [.int .i64 0], some (.int .i64)⟩),
(4, ⟨.bool, 1, 1, [.bool false], some .bool⟩),
(5, ⟨.int .u8, 1, 1, [.int .u8 0], some (.int .u8)⟩),
(6, ⟨.int .u8, 1, 1, [.int .u8 0], some (.int .u8)⟩),
(7, ⟨.struct [(0, 2), (1, 3), (2, 4), (3, 6)], 4, 24, [.int .i64 0, .int .i64 0, .bool false, .int .u8 0], none⟩),
(8, ⟨.struct [(0, 2), (1, 3), (2, 4), (3, 6)], 4, 24, [.int .i64 0, .int .i64 0, .bool false, .int .u8 0], none⟩),
(9, ⟨.str, 1, 16, [.str []], some .str⟩),
(10, ⟨.str, 1, 16, [.str []], some .str⟩),
(11, ⟨.str, 1, 16, [.str []], some .str⟩),
(12, ⟨.int .u64, 1, 8, [.int .u64 0], some (.int .u64)⟩),
(13, ⟨.struct [(0, 9), (1, 12)], 2, 24, [.str [], .int .u64 0], none⟩),
(14, ⟨.struct [(0, 9), (1, 12)], 2, 24, [.str [], .int .u64 0], none⟩),
(15, ⟨.ptr 139, 1, 8, [.nilp], none⟩),
(16, ⟨.ptr 142, 1, 8, [.nilp], none⟩),
(17, ⟨.ptr 152, 1, 8, [.nilp], none⟩),
(18, ⟨.struct [(0, 17)], 1, 8, [.nilp], none⟩),
(19, ⟨.struct [(0, 17)], 1, 8, [.nilp], none⟩),
(20, ⟨.other, 1, 16, [.nili], none⟩),
(21, ⟨.int .i32, 1, 4, [.int .i32 0], some (.int .i32)⟩),
(22, ⟨.slc 5, 1, 24, [.nils], none⟩),
(23, ⟨.other, 1, 8, [.nilf], none⟩),
(24, ⟨.flt .f32, 1, 4, [.flt .f32 0], some (.flt .f32)⟩)
]
theorem tlOk0 : AllT Try.prog tl0 := ⟨ti1, ti2, ti3, ti4, ti5, ti6, ti7, ti8, ti9, ti10, ti11, ti12, ti13, ti14, ti15, ti16, ti17, ti18, ti19, ti20, ti21, ti22, ti23, ti24, trivial⟩
def tl1 : List (Nat × TI) := [
(25, ⟨.other, 1, 8, [.nilf], none⟩),
(26, ⟨.slc 43, 1, 24, [.nils], none⟩),
(28, ⟨.other, 1, 8, [.nilf], none⟩),
(29, ⟨.other, 1, 8, [.nilf], none⟩),
(30, ⟨.struct [(0, 24), (1, 24), (2, 24)], 3, 12, [.flt .f32 0, .flt .f32 0, .flt .f32 0], none⟩),
(31, ⟨.struct [(0, 24), (1, 24), (2, 24)], 3, 12, [.flt .f32 0, .flt .f32 0, .flt .f32 0], some .vec⟩),
(33, ⟨.other, 1, 8, [.nilf], none⟩),
(35, ⟨.other, 1, 8, [.nilf], none⟩),
(37, ⟨.other, 1, 8, [.nilf], none⟩),
(38, ⟨.other, 1, 8, [.nilf], none⟩),
(39, ⟨.flt .f64, 1, 8, [.flt .f64 0], some (.flt .f64)⟩),
(40, ⟨.other, 1, 8, [.nilf], none⟩),
(41, ⟨.other, 1, 8, [.nilf], none⟩),
(42, ⟨.struct [(0, 31), (3, 31), (6, 24)], 7, 28, [.flt .f32 0, .flt .f32 0, .flt .f32 0, .flt .f32 0, .flt .f32 0, .flt .f32 0, .flt .f32 0], none⟩),
(43, ⟨.struct [(0, 31), (3, 31), (6, 24)], 7, 28, [.flt .f32 0, .flt .f32 0, .flt .f32 0, .flt .f32 0, .flt .f32 0, .flt .f32 0, .flt .f32 0], some .body⟩),
(44, ⟨.other, 1, 8, [.nilf], none⟩),
(45, ⟨.other, 1, 8, [.nilf], none⟩),
(47, ⟨.other, 1, 8, [.nilf], none⟩),
(49, ⟨.other, 1, 8, [.nilf], none⟩),
(50, ⟨.struct [(0, 24), (1, 24), (2, 24), (3, 24), (4, 24), (5, 24)], 6, 24, [.flt .f32 0, .flt .f32 0, .flt .f32 0, .flt .f32 0, .flt .f32 0, .flt .f32 0], none⟩),
(51, ⟨.struct [(0, 24), (1, 24), (2, 24), (3, 24), (4, 24), (5, 24)], 6, 24, [.flt .f32 0, .flt .f32 0, .flt .f32 0, .flt .f32 0, .flt .f32 0, .flt .f32 0], none⟩),
(52, ⟨.other, 1, 8, [.nilf], none⟩),
(53, ⟨.other, 1, 8, [.nilf], none⟩),
(55, ⟨.other, 1, 8, [.nilf], none⟩)
]
theorem tlOk1 : AllT Try.prog tl1 := ⟨ti25, ti26, ti28, ti29, ti30, ti31, ti33, ti35, ti37, ti38, ti39, ti40, ti41, ti42, ti43, ti44, ti45, ti47, ti49, ti50, ti51, ti52, ti53, ti55, trivial⟩
def tl2 : List (Nat × TI) := [
(56, ⟨.cplx .f32, 1, 8, [.cplx .f32 0 0], some (.cplx .f32)⟩),
(58, ⟨.other, 1, 8, [.nilf], none⟩),
(60, ⟨.other, 1, 8, [.nilf], none⟩),
(61, ⟨.other, 1, 8, [.nilf], none⟩),
(62, ⟨.other, 1, 8, [.nilf], none⟩),
(64, ⟨.other, 1, 8, [.nilf], none⟩),
(65, ⟨.other, 1, 8, [.nilf], none⟩),
(66, ⟨.other, 1, 8, [.nilf], none⟩),
(67, ⟨.other, 1, 8, [.nilf], none⟩),
(68, ⟨.other, 1, 8, [.nilf], none⟩),
(69, ⟨.other, 1, 8, [.nilf], none⟩),
(70, ⟨.other, 1, 8, [.nilf], none⟩),
(71, ⟨.other, 1, 8, [.nilf], none⟩),
(72, ⟨.other, 1, 8, [.nilf], none⟩),
(73, ⟨.other, 1, 8, [.nilf], none⟩),
(74, ⟨.other, 1, 8, [.nilf], none⟩),
(75, ⟨.other, 1, 8, [.nilf], none⟩),
(76, ⟨.other, 1, 8, [.nilf], none⟩),
(77, ⟨.other, 1, 8, [.nilf], none⟩),
(78, ⟨.other, 1, 8, [.nilf], none⟩),
(79, ⟨.other, 1, 8, [.nilf], none⟩),
(81, ⟨.other, 1, 8, [.nilf], none⟩),
(82, ⟨.ptr 114, 1, 8, [.nilp], none⟩),
(83, ⟨.other, 1, 8, [.nilf], none⟩)
]
theorem tlOk2 : AllT Try.prog tl2 := ⟨ti56, ti58, ti60, ti61, ti62, ti64, ti65, ti66, ti67, ti68, ti69, ti70, ti71, ti72, ti73, ti74, ti75, ti76, ti77, ti78, ti79, ti81, ti82, ti83, trivial⟩
def tl3 : List (Nat × TI) := [
(84, ⟨.other, 1, 8, [.nilf], none⟩),
(85, ⟨.other, 1, 8, [.nilf], none⟩),
(86, ⟨.other, 1, 8, [.nilf], none⟩),
(87, ⟨.other, 1, 8, [.nilf], none⟩),
(89, ⟨.other, 1, 8, [.nilf], none⟩),
(90, ⟨.other, 1, 8, [.nilf], none⟩),
(92, ⟨.other, 1, 8, [.nilf], none⟩),
(93, ⟨.other, 1, 8, [.nilf], none⟩),
(94, ⟨.arr 3 39, 3, 24, [.flt .f64 0, .flt .f64 0, .flt .f64 0], none⟩),
(95, ⟨.arr 3 39, 3, 24, [.flt .f64 0, .flt .f64 0, .flt .f64 0], none⟩),
(96, ⟨.other, 1, 8, [.nilf], none⟩),
(97, ⟨.other, 1, 8, [.nilf], none⟩),
(98, ⟨.other, 1, 8, [.nilf], none⟩),
(99, ⟨.other, 1, 8, [.nilf], none⟩),
(100, ⟨.other, 1, 8, [.nilf], none⟩),
(101, ⟨.other, 1, 8, [.nilf], none⟩),
(102, ⟨.other, 1, 8, [.nilf], none⟩),
(103, ⟨.other, 1, 8, [.nilf], none⟩),
(104, ⟨.other, 1, 8, [.nilf], none⟩),
(105, ⟨.other, 1, 8, [.nilf], none⟩),
(106, ⟨.other, 1, 8, [.nilf], none⟩),
(107, ⟨.other, 1, 8, [.nilf], none⟩),
(108, ⟨.other, 1, 8, [.nilf], none⟩),
(109, ⟨.slc 2, 1, 24, [.nils], none⟩)
]
theorem tlOk3 : AllT Try.prog tl3 := ⟨ti84, ti85, ti86, ti87, ti89, ti90, ti92, ti93, ti94, ti95, ti96, ti97, ti98, ti99, ti100, ti101, ti102, ti103, ti104, ti105, ti106, ti107, ti108, ti109, trivial⟩
def tl4 : List (Nat × TI) := [
(110, ⟨.other, 1, 8, [.nilf], none⟩),
(111, ⟨.other, 1, 8, [.nilf], none⟩),
(112, ⟨.int .u64, 1, 8, [.int .u64 0], some (.int .u64)⟩),
(113, ⟨.struct [(0, 22), (1, 3), (2, 112)], 3, 40, [.nils, .int .i64 0, .int .u64 0], none⟩),
(114, ⟨.struct [(0, 22), (1, 3), (2, 112)], 3, 40, [.nils, .int .i64 0, .int .u64 0], none⟩),
(115, ⟨.other, 1, 8, [.nilf], none⟩),
(116, ⟨.slc 24, 1, 24, [.nils], none⟩),
(117, ⟨.other, 1, 8, [.nilf], none⟩),
(118, ⟨.other, 1, 8, [.nilf], none⟩),
(119, ⟨.other, 1, 8, [.nilf], none⟩),
(120, ⟨.other, 1, 8, [.nilf], none⟩),
(121, ⟨.other, 1, 8, [.nilf], none⟩),
(122, ⟨.other, 1, 8, [.nilf], none⟩),
(123, ⟨.other, 1, 8, [.nilf], none⟩),
(124, ⟨.other, 1, 8, [.nilf], none⟩),
(125, ⟨.slc 31, 1, 24, [.nils], none⟩),
(127, ⟨.other, 1, 8, [.nilf], none⟩),
(128, ⟨.other, 1, 8, [.nilf], none⟩),
(129, ⟨.other, 1, 8, [.nilf], none⟩),
(130, ⟨.other, 1, 8, [.nilf], none⟩),
(131, ⟨.int .u64, 1, 8, [.int .u64 0], some (.int .u64)⟩),
(132, ⟨.other, 1, 8, [.nilf], none⟩),
(134, ⟨.other, 1, 8, [.nilf], none⟩),
(135, ⟨.other, 1, 8, [.nilf], none⟩)
]
theorem tlOk4 : AllT Try.prog tl4 := ⟨ti110, ti111, ti112, ti113, ti114, ti115, ti116, ti117, ti118, ti119, ti120, ti121, ti122, ti123, ti124, ti125, ti127, ti128, ti129, ti130, ti131, ti132, ti134, ti135, trivial⟩
def tl5 : List (Nat × TI) := [
(136, ⟨.other, 1, 8, [.nilf], none⟩),
(137, ⟨.other, 1, 8, [.nilf], none⟩),
(138, ⟨.struct [(0, 17), (1, 17), (2, 17), (3, 9)], 4, 40, [.nilp, .nilp, .nilp, .str []], none⟩),
(139, ⟨.struct [(0, 17), (1, 17), (2, 17), (3, 9)], 4, 40, [.nilp, .nilp, .nilp, .str []], none⟩),
(140, ⟨.arr 0 16, 0, 0, [], none⟩),
(141, ⟨.struct [(0, 140)], 0, 0, [], none⟩),
(142, ⟨.struct [(0, 140)], 0, 0, [], none⟩),
(143, ⟨.other, 1, 8, [.nilf], none⟩),
(144, ⟨.int .u32, 1, 4, [.int .u32 0], some (.int .u32)⟩),
(145, ⟨.int .u8, 1, 1, [.int .u8 0], some (.int .u8)⟩),
(146, ⟨.int .u8, 1, 1, [.int .u8 0], some (.int .u8)⟩),
(147, ⟨.other, 1, 8, [.nilf], none⟩),
(148, ⟨.ptr 5, 1, 8, [.nilp], none⟩),
(149, ⟨.int .i32, 1, 4, [.int .i32 0], some (.int .i32)⟩),
(150, ⟨.int .i32, 1, 4, [.int .i32 0], some (.int .i32)⟩),
(151, ⟨.struct [(0, 12), (1, 12), (2, 144), (3, 145), (4, 5), (5, 5), (6, 146), (7, 147), (8, 148), (9, 149), (10, 150)], 11, 48, [.int .u64 0, .int .u64 0, .int .u32 0, .int .u8 0, .int .u8 0, .int .u8 0, .int .u8 0, .nilf, .nilp, .int .i32 0, .int .i32 0], none⟩),
(152, ⟨.struct [(0, 12), (1, 12), (2, 144), (3, 145), (4, 5), (5, 5), (6, 146), (7, 147), (8, 148), (9, 149), (10, 150)], 11, 48, [.int .u64 0, .int .u64 0, .int .u32 0, .int .u8 0, .int .u8 0, .int .u8 0, .int .u8 0, .nilf, .nilp, .int .i32 0, .int .i32 0], none⟩),
(153, ⟨.other, 1, 8, [.nilp], none⟩)
]
theorem tlOk5 : AllT Try.prog tl5 := ⟨ti136, ti137, ti138, ti139, ti140, ti141, ti142, ti143, ti144, ti145, ti146, ti147, ti148, ti149, ti150, ti151, ti152, ti153, trivial⟩
def tab : TT := tget2 [tl0, tl1, tl2, tl3, tl4, tl5]
theorem tab_ok : TTOK Try.prog tab := tget2_ok _ ⟨tlOk0, tlOk1, tlOk2, tlOk3, tlOk4, tlOk5, trivial⟩
end Go.Proofs.Ytilfdpllleninaa
