/- THE TYPES, BY A PROGRAM: what the evaluator takes from the table of types, and that it stands there. -/
import Derived.Test.YtomdjbkididieaaEngQb
import Derived.Test.YtomdjbkididieaaProg
namespace Go.Proofs.Ytomdjbkididieaa
/-- A string's bytes, as integers. -/
def u8i (l : List UInt8) : List Int := u8s l
theorem z_int {k : IntKind} : ZSim (.int k 0) (.int k 0) := fun c => by simp only [VSim]
theorem z_f32 : ZSim (.flt .f32 0) (.float .f32 0) := fun c => by simp only [VSim]; exact ⟨0, rfl, by decide +kernel⟩
theorem z_f64 : ZSim (.flt .f64 0) (.float .f64 0) := fun c => by simp only [VSim]; exact ⟨0, rfl, by decide +kernel⟩
theorem z_c32 : ZSim (.cplx .f32 0 0) (.complex .f32 0 0) := fun c => by simp only [VSim]; exact ⟨0, 0, rfl, by decide +kernel, by decide +kernel⟩
theorem z_c64 : ZSim (.cplx .f64 0 0) (.complex .f64 0 0) := fun c => by simp only [VSim]; exact ⟨0, 0, rfl, by decide +kernel, by decide +kernel⟩
theorem z_bool : ZSim (.bool false) (.bool false) := fun c => by simp only [VSim]
theorem z_str {s : ByteArray} (h : s.data.toList = []) : ZSim (.str []) (.string s) := fun c => by simp only [VSim]; exact ⟨s, rfl, h⟩
theorem z_nilp : ZSim .nilp (.pointer none) := fun c => by simp only [VSim]
theorem z_nils : ZSim .nils (.slice none 0 0) := fun c => by simp only [VSim]
theorem z_nilf : ZSim .nilf .nilFunc := fun c => by simp only [VSim]
theorem z_nili : ZSim .nili .nilIface := fun c => by simp only [VSim]
theorem ti1 : TIOK Try.prog 1 ⟨.other, 1, 8, [.nilf], none⟩ := ⟨⟨_, Try.underlying1, (fun f h => by cases h), (fun n e h => by cases h)⟩, Try.t1, _, by kernel_rfl, rfl, rfl, rfl, ⟨z_nilf, trivial⟩⟩
theorem ti2 : TIOK Try.prog 2 ⟨.int .i64, 1, 8, [.int .i64 0], some (.int .i64)⟩ := ⟨Try.underlying2, Try.t2, _, by kernel_rfl, rfl, rfl, rfl, ⟨z_int, trivial⟩⟩
theorem ti3 : TIOK Try.prog 3 ⟨.int .i64, 1, 8, [.int .i64 0], some (.int .i64)⟩ := ⟨Try.underlying3, Try.t3, _, by kernel_rfl, rfl, rfl, rfl, ⟨z_int, trivial⟩⟩
theorem ti4 : TIOK Try.prog 4 ⟨.bool, 1, 1, [.bool false], some .bool⟩ := ⟨Try.underlying4, Try.t4, _, by kernel_rfl, rfl, rfl, rfl, ⟨z_bool, trivial⟩⟩
theorem ti5 : TIOK Try.prog 5 ⟨.int .u8, 1, 1, [.int .u8 0], some (.int .u8)⟩ := ⟨Try.underlying5, Try.t5, _, by kernel_rfl, rfl, rfl, rfl, ⟨z_int, trivial⟩⟩
theorem ti6 : TIOK Try.prog 6 ⟨.int .u8, 1, 1, [.int .u8 0], some (.int .u8)⟩ := ⟨Try.underlying6, Try.t6, _, by kernel_rfl, rfl, rfl, rfl, ⟨z_int, trivial⟩⟩
theorem ti7 : TIOK Try.prog 7 ⟨.struct [(0, 2), (1, 3), (2, 4), (3, 6)], 4, 24, [.int .i64 0, .int .i64 0, .bool false, .int .u8 0], none⟩ := ⟨⟨_, Try.underlying7, rfl⟩, Try.t7, _, by kernel_rfl, rfl, rfl, rfl, ⟨z_int, z_int, z_bool, z_int, trivial⟩⟩
theorem ti8 : TIOK Try.prog 8 ⟨.struct [(0, 2), (1, 3), (2, 4), (3, 6)], 4, 24, [.int .i64 0, .int .i64 0, .bool false, .int .u8 0], none⟩ := ⟨⟨_, Try.underlying8, rfl⟩, Try.t8, _, by kernel_rfl, rfl, rfl, rfl, ⟨z_int, z_int, z_bool, z_int, trivial⟩⟩
theorem ti9 : TIOK Try.prog 9 ⟨.str, 1, 16, [.str []], some .str⟩ := ⟨Try.underlying9, Try.t9, _, by kernel_rfl, rfl, rfl, rfl, ⟨z_str rfl, trivial⟩⟩
theorem ti10 : TIOK Try.prog 10 ⟨.str, 1, 16, [.str []], some .str⟩ := ⟨Try.underlying10, Try.t10, _, by kernel_rfl, rfl, rfl, rfl, ⟨z_str rfl, trivial⟩⟩
theorem ti11 : TIOK Try.prog 11 ⟨.str, 1, 16, [.str []], some .str⟩ := ⟨Try.underlying11, Try.t11, _, by kernel_rfl, rfl, rfl, rfl, ⟨z_str rfl, trivial⟩⟩
theorem ti12 : TIOK Try.prog 12 ⟨.int .u64, 1, 8, [.int .u64 0], some (.int .u64)⟩ := ⟨Try.underlying12, Try.t12, _, by kernel_rfl, rfl, rfl, rfl, ⟨z_int, trivial⟩⟩
theorem ti13 : TIOK Try.prog 13 ⟨.struct [(0, 9), (1, 12)], 2, 24, [.str [], .int .u64 0], none⟩ := ⟨⟨_, Try.underlying13, rfl⟩, Try.t13, _, by kernel_rfl, rfl, rfl, rfl, ⟨z_str rfl, z_int, trivial⟩⟩
theorem ti14 : TIOK Try.prog 14 ⟨.struct [(0, 9), (1, 12)], 2, 24, [.str [], .int .u64 0], none⟩ := ⟨⟨_, Try.underlying14, rfl⟩, Try.t14, _, by kernel_rfl, rfl, rfl, rfl, ⟨z_str rfl, z_int, trivial⟩⟩
theorem ti15 : TIOK Try.prog 15 ⟨.ptr 95, 1, 8, [.nilp], none⟩ := ⟨Try.underlying15, Try.t15, _, by kernel_rfl, rfl, rfl, rfl, ⟨z_nilp, trivial⟩⟩
theorem ti16 : TIOK Try.prog 16 ⟨.ptr 98, 1, 8, [.nilp], none⟩ := ⟨Try.underlying16, Try.t16, _, by kernel_rfl, rfl, rfl, rfl, ⟨z_nilp, trivial⟩⟩
theorem ti17 : TIOK Try.prog 17 ⟨.ptr 108, 1, 8, [.nilp], none⟩ := ⟨Try.underlying17, Try.t17, _, by kernel_rfl, rfl, rfl, rfl, ⟨z_nilp, trivial⟩⟩
theorem ti18 : TIOK Try.prog 18 ⟨.struct [(0, 17)], 1, 8, [.nilp], none⟩ := ⟨⟨_, Try.underlying18, rfl⟩, Try.t18, _, by kernel_rfl, rfl, rfl, rfl, ⟨z_nilp, trivial⟩⟩
theorem ti19 : TIOK Try.prog 19 ⟨.struct [(0, 17)], 1, 8, [.nilp], none⟩ := ⟨⟨_, Try.underlying19, rfl⟩, Try.t19, _, by kernel_rfl, rfl, rfl, rfl, ⟨z_nilp, trivial⟩⟩
theorem ti20 : TIOK Try.prog 20 ⟨.other, 1, 16, [.nili], none⟩ := ⟨⟨_, Try.underlying20, (fun f h => by cases h), (fun n e h => by cases h)⟩, Try.t20, _, by kernel_rfl, rfl, rfl, rfl, ⟨z_nili, trivial⟩⟩
theorem ti21 : TIOK Try.prog 21 ⟨.int .i32, 1, 4, [.int .i32 0], some (.int .i32)⟩ := ⟨Try.underlying21, Try.t21, _, by kernel_rfl, rfl, rfl, rfl, ⟨z_int, trivial⟩⟩
theorem ti22 : TIOK Try.prog 22 ⟨.slc 5, 1, 24, [.nils], none⟩ := ⟨Try.underlying22, Try.t22, _, by kernel_rfl, rfl, rfl, rfl, ⟨z_nils, trivial⟩⟩
theorem ti23 : TIOK Try.prog 23 ⟨.other, 1, 8, [.nilf], none⟩ := ⟨⟨_, Try.underlying23, (fun f h => by cases h), (fun n e h => by cases h)⟩, Try.t23, _, by kernel_rfl, rfl, rfl, rfl, ⟨z_nilf, trivial⟩⟩
theorem ti24 : TIOK Try.prog 24 ⟨.flt .f32, 1, 4, [.flt .f32 0], some (.flt .f32)⟩ := ⟨Try.underlying24, Try.t24, _, by kernel_rfl, rfl, rfl, rfl, ⟨z_f32, trivial⟩⟩
theorem ti25 : TIOK Try.prog 25 ⟨.struct [(0, 24), (1, 24), (2, 24), (3, 24), (4, 24), (5, 24)], 6, 24, [.flt .f32 0, .flt .f32 0, .flt .f32 0, .flt .f32 0, .flt .f32 0, .flt .f32 0], none⟩ := ⟨⟨_, Try.underlying25, rfl⟩, Try.t25, _, by kernel_rfl, rfl, rfl, rfl, ⟨z_f32, z_f32, z_f32, z_f32, z_f32, z_f32, trivial⟩⟩
theorem ti26 : TIOK Try.prog 26 ⟨.struct [(0, 24), (1, 24), (2, 24), (3, 24), (4, 24), (5, 24)], 6, 24, [.flt .f32 0, .flt .f32 0, .flt .f32 0, .flt .f32 0, .flt .f32 0, .flt .f32 0], none⟩ := ⟨⟨_, Try.underlying26, rfl⟩, Try.t26, _, by kernel_rfl, rfl, rfl, rfl, ⟨z_f32, z_f32, z_f32, z_f32, z_f32, z_f32, trivial⟩⟩
theorem ti27 : TIOK Try.prog 27 ⟨.other, 1, 8, [.nilf], none⟩ := ⟨⟨_, Try.underlying27, (fun f h => by cases h), (fun n e h => by cases h)⟩, Try.t27, _, by kernel_rfl, rfl, rfl, rfl, ⟨z_nilf, trivial⟩⟩
theorem ti28 : TIOK Try.prog 28 ⟨.other, 1, 8, [.nilf], none⟩ := ⟨⟨_, Try.underlying28, (fun f h => by cases h), (fun n e h => by cases h)⟩, Try.t28, _, by kernel_rfl, rfl, rfl, rfl, ⟨z_nilf, trivial⟩⟩
theorem ti30 : TIOK Try.prog 30 ⟨.other, 1, 8, [.nilf], none⟩ := ⟨⟨_, Try.underlying30, (fun f h => by cases h), (fun n e h => by cases h)⟩, Try.t30, _, by kernel_rfl, rfl, rfl, rfl, ⟨z_nilf, trivial⟩⟩
theorem ti32 : TIOK Try.prog 32 ⟨.other, 1, 8, [.nilf], none⟩ := ⟨⟨_, Try.underlying32, (fun f h => by cases h), (fun n e h => by cases h)⟩, Try.t32, _, by kernel_rfl, rfl, rfl, rfl, ⟨z_nilf, trivial⟩⟩
theorem ti33 : TIOK Try.prog 33 ⟨.flt .f64, 1, 8, [.flt .f64 0], some (.flt .f64)⟩ := ⟨Try.underlying33, Try.t33, _, by kernel_rfl, rfl, rfl, rfl, ⟨z_f64, trivial⟩⟩
theorem ti34 : TIOK Try.prog 34 ⟨.other, 1, 8, [.nilf], none⟩ := ⟨⟨_, Try.underlying34, (fun f h => by cases h), (fun n e h => by cases h)⟩, Try.t34, _, by kernel_rfl, rfl, rfl, rfl, ⟨z_nilf, trivial⟩⟩
theorem ti35 : TIOK Try.prog 35 ⟨.other, 1, 8, [.nilf], none⟩ := ⟨⟨_, Try.underlying35, (fun f h => by cases h), (fun n e h => by cases h)⟩, Try.t35, _, by kernel_rfl, rfl, rfl, rfl, ⟨z_nilf, trivial⟩⟩
theorem ti36 : TIOK Try.prog 36 ⟨.other, 1, 8, [.nilf], none⟩ := ⟨⟨_, Try.underlying36, (fun f h => by cases h), (fun n e h => by cases h)⟩, Try.t36, _, by kernel_rfl, rfl, rfl, rfl, ⟨z_nilf, trivial⟩⟩
theorem ti37 : TIOK Try.prog 37 ⟨.other, 1, 8, [.nilf], none⟩ := ⟨⟨_, Try.underlying37, (fun f h => by cases h), (fun n e h => by cases h)⟩, Try.t37, _, by kernel_rfl, rfl, rfl, rfl, ⟨z_nilf, trivial⟩⟩
theorem ti38 : TIOK Try.prog 38 ⟨.slc 45, 1, 24, [.nils], none⟩ := ⟨Try.underlying38, Try.t38, _, by kernel_rfl, rfl, rfl, rfl, ⟨z_nils, trivial⟩⟩
theorem ti40 : TIOK Try.prog 40 ⟨.other, 1, 8, [.nilf], none⟩ := ⟨⟨_, Try.underlying40, (fun f h => by cases h), (fun n e h => by cases h)⟩, Try.t40, _, by kernel_rfl, rfl, rfl, rfl, ⟨z_nilf, trivial⟩⟩
theorem ti42 : TIOK Try.prog 42 ⟨.other, 1, 8, [.nilf], none⟩ := ⟨⟨_, Try.underlying42, (fun f h => by cases h), (fun n e h => by cases h)⟩, Try.t42, _, by kernel_rfl, rfl, rfl, rfl, ⟨z_nilf, trivial⟩⟩
theorem ti43 : TIOK Try.prog 43 ⟨.other, 1, 8, [.nilf], none⟩ := ⟨⟨_, Try.underlying43, (fun f h => by cases h), (fun n e h => by cases h)⟩, Try.t43, _, by kernel_rfl, rfl, rfl, rfl, ⟨z_nilf, trivial⟩⟩
theorem ti44 : TIOK Try.prog 44 ⟨.struct [(0, 24), (1, 24), (2, 24)], 3, 12, [.flt .f32 0, .flt .f32 0, .flt .f32 0], none⟩ := ⟨⟨_, Try.underlying44, rfl⟩, Try.t44, _, by kernel_rfl, rfl, rfl, rfl, ⟨z_f32, z_f32, z_f32, trivial⟩⟩
theorem ti45 : TIOK Try.prog 45 ⟨.struct [(0, 24), (1, 24), (2, 24)], 3, 12, [.flt .f32 0, .flt .f32 0, .flt .f32 0], some .vec⟩ := ⟨⟨_, Try.underlying45, rfl⟩, Try.t45, _, by kernel_rfl, rfl, rfl, rfl, ⟨z_f32, z_f32, z_f32, trivial⟩⟩
theorem ti46 : TIOK Try.prog 46 ⟨.other, 1, 8, [.nilf], none⟩ := ⟨⟨_, Try.underlying46, (fun f h => by cases h), (fun n e h => by cases h)⟩, Try.t46, _, by kernel_rfl, rfl, rfl, rfl, ⟨z_nilf, trivial⟩⟩
theorem ti47 : TIOK Try.prog 47 ⟨.ptr 70, 1, 8, [.nilp], none⟩ := ⟨Try.underlying47, Try.t47, _, by kernel_rfl, rfl, rfl, rfl, ⟨z_nilp, trivial⟩⟩
theorem ti48 : TIOK Try.prog 48 ⟨.other, 1, 8, [.nilf], none⟩ := ⟨⟨_, Try.underlying48, (fun f h => by cases h), (fun n e h => by cases h)⟩, Try.t48, _, by kernel_rfl, rfl, rfl, rfl, ⟨z_nilf, trivial⟩⟩
theorem ti49 : TIOK Try.prog 49 ⟨.other, 1, 8, [.nilf], none⟩ := ⟨⟨_, Try.underlying49, (fun f h => by cases h), (fun n e h => by cases h)⟩, Try.t49, _, by kernel_rfl, rfl, rfl, rfl, ⟨z_nilf, trivial⟩⟩
theorem ti50 : TIOK Try.prog 50 ⟨.other, 1, 8, [.nilf], none⟩ := ⟨⟨_, Try.underlying50, (fun f h => by cases h), (fun n e h => by cases h)⟩, Try.t50, _, by kernel_rfl, rfl, rfl, rfl, ⟨z_nilf, trivial⟩⟩
theorem ti51 : TIOK Try.prog 51 ⟨.other, 1, 8, [.nilf], none⟩ := ⟨⟨_, Try.underlying51, (fun f h => by cases h), (fun n e h => by cases h)⟩, Try.t51, _, by kernel_rfl, rfl, rfl, rfl, ⟨z_nilf, trivial⟩⟩
theorem ti52 : TIOK Try.prog 52 ⟨.other, 1, 8, [.nilf], none⟩ := ⟨⟨_, Try.underlying52, (fun f h => by cases h), (fun n e h => by cases h)⟩, Try.t52, _, by kernel_rfl, rfl, rfl, rfl, ⟨z_nilf, trivial⟩⟩
theorem ti53 : TIOK Try.prog 53 ⟨.other, 1, 8, [.nilf], none⟩ := ⟨⟨_, Try.underlying53, (fun f h => by cases h), (fun n e h => by cases h)⟩, Try.t53, _, by kernel_rfl, rfl, rfl, rfl, ⟨z_nilf, trivial⟩⟩
theorem ti54 : TIOK Try.prog 54 ⟨.other, 1, 8, [.nilf], none⟩ := ⟨⟨_, Try.underlying54, (fun f h => by cases h), (fun n e h => by cases h)⟩, Try.t54, _, by kernel_rfl, rfl, rfl, rfl, ⟨z_nilf, trivial⟩⟩
theorem ti55 : TIOK Try.prog 55 ⟨.other, 1, 8, [.nilf], none⟩ := ⟨⟨_, Try.underlying55, (fun f h => by cases h), (fun n e h => by cases h)⟩, Try.t55, _, by kernel_rfl, rfl, rfl, rfl, ⟨z_nilf, trivial⟩⟩
theorem ti56 : TIOK Try.prog 56 ⟨.other, 1, 8, [.nilf], none⟩ := ⟨⟨_, Try.underlying56, (fun f h => by cases h), (fun n e h => by cases h)⟩, Try.t56, _, by kernel_rfl, rfl, rfl, rfl, ⟨z_nilf, trivial⟩⟩
theorem ti58 : TIOK Try.prog 58 ⟨.other, 1, 8, [.nilf], none⟩ := ⟨⟨_, Try.underlying58, (fun f h => by cases h), (fun n e h => by cases h)⟩, Try.t58, _, by kernel_rfl, rfl, rfl, rfl, ⟨z_nilf, trivial⟩⟩
theorem ti59 : TIOK Try.prog 59 ⟨.other, 1, 8, [.nilf], none⟩ := ⟨⟨_, Try.underlying59, (fun f h => by cases h), (fun n e h => by cases h)⟩, Try.t59, _, by kernel_rfl, rfl, rfl, rfl, ⟨z_nilf, trivial⟩⟩
theorem ti60 : TIOK Try.prog 60 ⟨.arr 3 33, 3, 24, [.flt .f64 0, .flt .f64 0, .flt .f64 0], none⟩ := ⟨Try.underlying60, Try.t60, _, by kernel_rfl, rfl, rfl, rfl, ⟨z_f64, z_f64, z_f64, trivial⟩⟩
theorem ti61 : TIOK Try.prog 61 ⟨.arr 3 33, 3, 24, [.flt .f64 0, .flt .f64 0, .flt .f64 0], none⟩ := ⟨Try.underlying61, Try.t61, _, by kernel_rfl, rfl, rfl, rfl, ⟨z_f64, z_f64, z_f64, trivial⟩⟩
theorem ti62 : TIOK Try.prog 62 ⟨.other, 1, 8, [.nilf], none⟩ := ⟨⟨_, Try.underlying62, (fun f h => by cases h), (fun n e h => by cases h)⟩, Try.t62, _, by kernel_rfl, rfl, rfl, rfl, ⟨z_nilf, trivial⟩⟩
theorem ti63 : TIOK Try.prog 63 ⟨.other, 1, 8, [.nilf], none⟩ := ⟨⟨_, Try.underlying63, (fun f h => by cases h), (fun n e h => by cases h)⟩, Try.t63, _, by kernel_rfl, rfl, rfl, rfl, ⟨z_nilf, trivial⟩⟩
theorem ti64 : TIOK Try.prog 64 ⟨.other, 1, 8, [.nilf], none⟩ := ⟨⟨_, Try.underlying64, (fun f h => by cases h), (fun n e h => by cases h)⟩, Try.t64, _, by kernel_rfl, rfl, rfl, rfl, ⟨z_nilf, trivial⟩⟩
theorem ti65 : TIOK Try.prog 65 ⟨.other, 1, 8, [.nilf], none⟩ := ⟨⟨_, Try.underlying65, (fun f h => by cases h), (fun n e h => by cases h)⟩, Try.t65, _, by kernel_rfl, rfl, rfl, rfl, ⟨z_nilf, trivial⟩⟩
theorem ti67 : TIOK Try.prog 67 ⟨.other, 1, 8, [.nilf], none⟩ := ⟨⟨_, Try.underlying67, (fun f h => by cases h), (fun n e h => by cases h)⟩, Try.t67, _, by kernel_rfl, rfl, rfl, rfl, ⟨z_nilf, trivial⟩⟩
theorem ti68 : TIOK Try.prog 68 ⟨.int .u64, 1, 8, [.int .u64 0], some (.int .u64)⟩ := ⟨Try.underlying68, Try.t68, _, by kernel_rfl, rfl, rfl, rfl, ⟨z_int, trivial⟩⟩
theorem ti69 : TIOK Try.prog 69 ⟨.struct [(0, 22), (1, 3), (2, 68)], 3, 40, [.nils, .int .i64 0, .int .u64 0], none⟩ := ⟨⟨_, Try.underlying69, rfl⟩, Try.t69, _, by kernel_rfl, rfl, rfl, rfl, ⟨z_nils, z_int, z_int, trivial⟩⟩
theorem ti70 : TIOK Try.prog 70 ⟨.struct [(0, 22), (1, 3), (2, 68)], 3, 40, [.nils, .int .i64 0, .int .u64 0], none⟩ := ⟨⟨_, Try.underlying70, rfl⟩, Try.t70, _, by kernel_rfl, rfl, rfl, rfl, ⟨z_nils, z_int, z_int, trivial⟩⟩
theorem ti71 : TIOK Try.prog 71 ⟨.other, 1, 8, [.nilf], none⟩ := ⟨⟨_, Try.underlying71, (fun f h => by cases h), (fun n e h => by cases h)⟩, Try.t71, _, by kernel_rfl, rfl, rfl, rfl, ⟨z_nilf, trivial⟩⟩
theorem ti72 : TIOK Try.prog 72 ⟨.other, 1, 8, [.nilf], none⟩ := ⟨⟨_, Try.underlying72, (fun f h => by cases h), (fun n e h => by cases h)⟩, Try.t72, _, by kernel_rfl, rfl, rfl, rfl, ⟨z_nilf, trivial⟩⟩
theorem ti73 : TIOK Try.prog 73 ⟨.other, 1, 8, [.nilf], none⟩ := ⟨⟨_, Try.underlying73, (fun f h => by cases h), (fun n e h => by cases h)⟩, Try.t73, _, by kernel_rfl, rfl, rfl, rfl, ⟨z_nilf, trivial⟩⟩
theorem ti74 : TIOK Try.prog 74 ⟨.other, 1, 8, [.nilf], none⟩ := ⟨⟨_, Try.underlying74, (fun f h => by cases h), (fun n e h => by cases h)⟩, Try.t74, _, by kernel_rfl, rfl, rfl, rfl, ⟨z_nilf, trivial⟩⟩
theorem ti75 : TIOK Try.prog 75 ⟨.other, 1, 8, [.nilf], none⟩ := ⟨⟨_, Try.underlying75, (fun f h => by cases h), (fun n e h => by cases h)⟩, Try.t75, _, by kernel_rfl, rfl, rfl, rfl, ⟨z_nilf, trivial⟩⟩
theorem ti77 : TIOK Try.prog 77 ⟨.other, 1, 8, [.nilf], none⟩ := ⟨⟨_, Try.underlying77, (fun f h => by cases h), (fun n e h => by cases h)⟩, Try.t77, _, by kernel_rfl, rfl, rfl, rfl, ⟨z_nilf, trivial⟩⟩
theorem ti78 : TIOK Try.prog 78 ⟨.other, 1, 8, [.nilf], none⟩ := ⟨⟨_, Try.underlying78, (fun f h => by cases h), (fun n e h => by cases h)⟩, Try.t78, _, by kernel_rfl, rfl, rfl, rfl, ⟨z_nilf, trivial⟩⟩
theorem ti79 : TIOK Try.prog 79 ⟨.other, 1, 8, [.nilf], none⟩ := ⟨⟨_, Try.underlying79, (fun f h => by cases h), (fun n e h => by cases h)⟩, Try.t79, _, by kernel_rfl, rfl, rfl, rfl, ⟨z_nilf, trivial⟩⟩
theorem ti80 : TIOK Try.prog 80 ⟨.other, 1, 8, [.nilf], none⟩ := ⟨⟨_, Try.underlying80, (fun f h => by cases h), (fun n e h => by cases h)⟩, Try.t80, _, by kernel_rfl, rfl, rfl, rfl, ⟨z_nilf, trivial⟩⟩
theorem ti81 : TIOK Try.prog 81 ⟨.int .u64, 1, 8, [.int .u64 0], some (.int .u64)⟩ := ⟨Try.underlying81, Try.t81, _, by kernel_rfl, rfl, rfl, rfl, ⟨z_int, trivial⟩⟩
theorem ti82 : TIOK Try.prog 82 ⟨.other, 1, 8, [.nilf], none⟩ := ⟨⟨_, Try.underlying82, (fun f h => by cases h), (fun n e h => by cases h)⟩, Try.t82, _, by kernel_rfl, rfl, rfl, rfl, ⟨z_nilf, trivial⟩⟩
theorem ti83 : TIOK Try.prog 83 ⟨.other, 1, 8, [.nilf], none⟩ := ⟨⟨_, Try.underlying83, (fun f h => by cases h), (fun n e h => by cases h)⟩, Try.t83, _, by kernel_rfl, rfl, rfl, rfl, ⟨z_nilf, trivial⟩⟩
theorem ti84 : TIOK Try.prog 84 ⟨.other, 1, 8, [.nilf], none⟩ := ⟨⟨_, Try.underlying84, (fun f h => by cases h), (fun n e h => by cases h)⟩, Try.t84, _, by kernel_rfl, rfl, rfl, rfl, ⟨z_nilf, trivial⟩⟩
theorem ti85 : TIOK Try.prog 85 ⟨.slc 24, 1, 24, [.nils], none⟩ := ⟨Try.underlying85, Try.t85, _, by kernel_rfl, rfl, rfl, rfl, ⟨z_nils, trivial⟩⟩
theorem ti86 : TIOK Try.prog 86 ⟨.other, 1, 8, [.nilf], none⟩ := ⟨⟨_, Try.underlying86, (fun f h => by cases h), (fun n e h => by cases h)⟩, Try.t86, _, by kernel_rfl, rfl, rfl, rfl, ⟨z_nilf, trivial⟩⟩
theorem ti87 : TIOK Try.prog 87 ⟨.other, 1, 8, [.nilf], none⟩ := ⟨⟨_, Try.underlying87, (fun f h => by cases h), (fun n e h => by cases h)⟩, Try.t87, _, by kernel_rfl, rfl, rfl, rfl, ⟨z_nilf, trivial⟩⟩
theorem ti88 : TIOK Try.prog 88 ⟨.other, 1, 8, [.nilf], none⟩ := ⟨⟨_, Try.underlying88, (fun f h => by cases h), (fun n e h => by cases h)⟩, Try.t88, _, by kernel_rfl, rfl, rfl, rfl, ⟨z_nilf, trivial⟩⟩
theorem ti90 : TIOK Try.prog 90 ⟨.other, 1, 8, [.nilf], none⟩ := ⟨⟨_, Try.underlying90, (fun f h => by cases h), (fun n e h => by cases h)⟩, Try.t90, _, by kernel_rfl, rfl, rfl, rfl, ⟨z_nilf, trivial⟩⟩
theorem ti91 : TIOK Try.prog 91 ⟨.other, 1, 8, [.nilf], none⟩ := ⟨⟨_, Try.underlying91, (fun f h => by cases h), (fun n e h => by cases h)⟩, Try.t91, _, by kernel_rfl, rfl, rfl, rfl, ⟨z_nilf, trivial⟩⟩
theorem ti92 : TIOK Try.prog 92 ⟨.other, 1, 8, [.nilf], none⟩ := ⟨⟨_, Try.underlying92, (fun f h => by cases h), (fun n e h => by cases h)⟩, Try.t92, _, by kernel_rfl, rfl, rfl, rfl, ⟨z_nilf, trivial⟩⟩
theorem ti93 : TIOK Try.prog 93 ⟨.other, 1, 8, [.nilf], none⟩ := ⟨⟨_, Try.underlying93, (fun f h => by cases h), (fun n e h => by cases h)⟩, Try.t93, _, by kernel_rfl, rfl, rfl, rfl, ⟨z_nilf, trivial⟩⟩
theorem ti94 : TIOK Try.prog 94 ⟨.struct [(0, 17), (1, 17), (2, 17), (3, 9)], 4, 40, [.nilp, .nilp, .nilp, .str []], none⟩ := ⟨⟨_, Try.underlying94, rfl⟩, Try.t94, _, by kernel_rfl, rfl, rfl, rfl, ⟨z_nilp, z_nilp, z_nilp, z_str rfl, trivial⟩⟩
theorem ti95 : TIOK Try.prog 95 ⟨.struct [(0, 17), (1, 17), (2, 17), (3, 9)], 4, 40, [.nilp, .nilp, .nilp, .str []], none⟩ := ⟨⟨_, Try.underlying95, rfl⟩, Try.t95, _, by kernel_rfl, rfl, rfl, rfl, ⟨z_nilp, z_nilp, z_nilp, z_str rfl, trivial⟩⟩
theorem ti96 : TIOK Try.prog 96 ⟨.arr 0 16, 0, 0, [], none⟩ := ⟨Try.underlying96, Try.t96, _, by kernel_rfl, rfl, rfl, rfl, trivial⟩
theorem ti97 : TIOK Try.prog 97 ⟨.struct [(0, 96)], 0, 0, [], none⟩ := ⟨⟨_, Try.underlying97, rfl⟩, Try.t97, _, by kernel_rfl, rfl, rfl, rfl, trivial⟩
theorem ti98 : TIOK Try.prog 98 ⟨.struct [(0, 96)], 0, 0, [], none⟩ := ⟨⟨_, Try.underlying98, rfl⟩, Try.t98, _, by kernel_rfl, rfl, rfl, rfl, trivial⟩
theorem ti99 : TIOK Try.prog 99 ⟨.other, 1, 8, [.nilf], none⟩ := ⟨⟨_, Try.underlying99, (fun f h => by cases h), (fun n e h => by cases h)⟩, Try.t99, _, by kernel_rfl, rfl, rfl, rfl, ⟨z_nilf, trivial⟩⟩
theorem ti100 : TIOK Try.prog 100 ⟨.int .u32, 1, 4, [.int .u32 0], some (.int .u32)⟩ := ⟨Try.underlying100, Try.t100, _, by kernel_rfl, rfl, rfl, rfl, ⟨z_int, trivial⟩⟩
theorem ti101 : TIOK Try.prog 101 ⟨.int .u8, 1, 1, [.int .u8 0], some (.int .u8)⟩ := ⟨Try.underlying101, Try.t101, _, by kernel_rfl, rfl, rfl, rfl, ⟨z_int, trivial⟩⟩
theorem ti102 : TIOK Try.prog 102 ⟨.int .u8, 1, 1, [.int .u8 0], some (.int .u8)⟩ := ⟨Try.underlying102, Try.t102, _, by kernel_rfl, rfl, rfl, rfl, ⟨z_int, trivial⟩⟩
theorem ti103 : TIOK Try.prog 103 ⟨.other, 1, 8, [.nilf], none⟩ := ⟨⟨_, Try.underlying103, (fun f h => by cases h), (fun n e h => by cases h)⟩, Try.t103, _, by kernel_rfl, rfl, rfl, rfl, ⟨z_nilf, trivial⟩⟩
theorem ti104 : TIOK Try.prog 104 ⟨.ptr 5, 1, 8, [.nilp], none⟩ := ⟨Try.underlying104, Try.t104, _, by kernel_rfl, rfl, rfl, rfl, ⟨z_nilp, trivial⟩⟩
theorem ti105 : TIOK Try.prog 105 ⟨.int .i32, 1, 4, [.int .i32 0], some (.int .i32)⟩ := ⟨Try.underlying105, Try.t105, _, by kernel_rfl, rfl, rfl, rfl, ⟨z_int, trivial⟩⟩
theorem ti106 : TIOK Try.prog 106 ⟨.int .i32, 1, 4, [.int .i32 0], some (.int .i32)⟩ := ⟨Try.underlying106, Try.t106, _, by kernel_rfl, rfl, rfl, rfl, ⟨z_int, trivial⟩⟩
theorem ti107 : TIOK Try.prog 107 ⟨.struct [(0, 12), (1, 12), (2, 100), (3, 101), (4, 5), (5, 5), (6, 102), (7, 103), (8, 104), (9, 105), (10, 106)], 11, 48, [.int .u64 0, .int .u64 0, .int .u32 0, .int .u8 0, .int .u8 0, .int .u8 0, .int .u8 0, .nilf, .nilp, .int .i32 0, .int .i32 0], none⟩ := ⟨⟨_, Try.underlying107, rfl⟩, Try.t107, _, by kernel_rfl, rfl, rfl, rfl, ⟨z_int, z_int, z_int, z_int, z_int, z_int, z_int, z_nilf, z_nilp, z_int, z_int, trivial⟩⟩
theorem ti108 : TIOK Try.prog 108 ⟨.struct [(0, 12), (1, 12), (2, 100), (3, 101), (4, 5), (5, 5), (6, 102), (7, 103), (8, 104), (9, 105), (10, 106)], 11, 48, [.int .u64 0, .int .u64 0, .int .u32 0, .int .u8 0, .int .u8 0, .int .u8 0, .int .u8 0, .nilf, .nilp, .int .i32 0, .int .i32 0], none⟩ := ⟨⟨_, Try.underlying108, rfl⟩, Try.t108, _, by kernel_rfl, rfl, rfl, rfl, ⟨z_int, z_int, z_int, z_int, z_int, z_int, z_int, z_nilf, z_nilp, z_int, z_int, trivial⟩⟩
theorem ti109 : TIOK Try.prog 109 ⟨.other, 1, 8, [.nilp], none⟩ := ⟨⟨_, Try.underlying109, (fun f h => by cases h), (fun n e h => by cases h)⟩, Try.t109, _, by kernel_rfl, rfl, rfl, rfl, ⟨z_nilp, trivial⟩⟩
def tget : List (Nat × TI) → TT
  | [], _ => none
  | (n, i) :: r, t => bif n == t then some i else tget r t
def tget2 : List (List (Nat × TI)) → TT
  | [], _ => none
  | l :: r, t => match tget l t with
    | some i => some i
    | none => tget2 r t
def AllT (P : Program) : List (Nat × TI) → Prop
  | [] => True
  | x :: r => TIOK P x.1 x.2 ∧ AllT P r
def AllT2 (P : Program) : List (List (Nat × TI)) → Prop
  | [] => True
  | x :: r => AllT P x ∧ AllT2 P r
theorem tget_ok {P : Program} : ∀ (l : List (Nat × TI)), AllT P l → TTOK P (tget l)
  | [], _ => fun t i h => by simp [tget] at h
  | (n, j) :: r, hl => fun t i h => by
    simp only [tget, cond_eq_ite, beq_iff_eq] at h
    by_cases q : n = t
    · rw [if_pos q] at h; cases h; subst q; exact hl.1
    · rw [if_neg q] at h; exact tget_ok r hl.2 t i h
theorem tget2_ok {P : Program} : ∀ (l : List (List (Nat × TI))), AllT2 P l → TTOK P (tget2 l)
  | [], _ => fun t i h => by simp [tget2] at h
  | x :: r, hl => fun t i h => by
    simp only [tget2] at h
    split at h
    · rename_i j hj; cases h; exact tget_ok x hl.1 t _ hj
    · exact tget2_ok r hl.2 t i h
def tl0 : List (Nat × TI) := [
(1, ⟨.other, 1, 8, [.nilf], none⟩),
(2, ⟨.int .i64, 1, 8, [.int .i64 0], some (.int .i64)⟩),
(3, ⟨.int .i64, 1, 8, [.int .i64 0], some (.int .i64)⟩),
(4, ⟨.bool, 1, 1, [.bool false], some .bool⟩),
(5, ⟨.int .u8, 1, 1, [.int .u8 0], some (.int .u8)⟩),
(6, ⟨.int .u8, 1, 1, [.int .u8 0], some (.int .u8)⟩),
(7, ⟨.struct [(0, 2), (1, 3), (2, 4), (3, 6)], 4, 24, [.int .i64 0, .int .i64 0, .bool false, .int .u8 0], none⟩),
(8, ⟨.struct [(0, 2), (1, 3), (2, 4), (3, 6)], 4, 24, [.int .i64 0, .int .i64 0, .bool false, .int .u8 0], none⟩),
(9, ⟨.str, 1, 16, [.str []], some .str⟩),
(10, ⟨.str, 1, 16, [.str []], some .str⟩),
(11, ⟨.str, 1, 16, [.str []], some .str⟩),
(12, ⟨.int .u64, 1, 8, [.int .u64 0], some (.int .u64)⟩),
(13, ⟨.struct [(0, 9), (1, 12)], 2, 24, [.str [], .int .u64 0], none⟩),
(14, ⟨.struct [(0, 9), (1, 12)], 2, 24, [.str [], .int .u64 0], none⟩),
(15, ⟨.ptr 95, 1, 8, [.nilp], none⟩),
(16, ⟨.ptr 98, 1, 8, [.nilp], none⟩),
(17, ⟨.ptr 108, 1, 8, [.nilp], none⟩),
(18, ⟨.struct [(0, 17)], 1, 8, [.nilp], none⟩),
(19, ⟨.struct [(0, 17)], 1, 8, [.nilp], none⟩),
(20, ⟨.other, 1, 16, [.nili], none⟩),
(21, ⟨.int .i32, 1, 4, [.int .i32 0], some (.int .i32)⟩),
(22, ⟨.slc 5, 1, 24, [.nils], none⟩),
(23, ⟨.other, 1, 8, [.nilf], none⟩),
(24, ⟨.flt .f32, 1, 4, [.flt .f32 0], some (.flt .f32)⟩)
]
theorem tlOk0 : AllT Try.prog tl0 := ⟨ti1, ti2, ti3, ti4, ti5, ti6, ti7, ti8, ti9, ti10, ti11, ti12, ti13, ti14, ti15, ti16, ti17, ti18, ti19, ti20, ti21, ti22, ti23, ti24, trivial⟩
def tl1 : List (Nat × TI) := [
(25, ⟨.struct [(0, 24), (1, 24), (2, 24), (3, 24), (4, 24), (5, 24)], 6, 24, [.flt .f32 0, .flt .f32 0, .flt .f32 0, .flt .f32 0, .flt .f32 0, .flt .f32 0], none⟩),
(26, ⟨.struct [(0, 24), (1, 24), (2, 24), (3, 24), (4, 24), (5, 24)], 6, 24, [.flt .f32 0, .flt .f32 0, .flt .f32 0, .flt .f32 0, .flt .f32 0, .flt .f32 0], none⟩),
(27, ⟨.other, 1, 8, [.nilf], none⟩),
(28, ⟨.other, 1, 8, [.nilf], none⟩),
(30, ⟨.other, 1, 8, [.nilf], none⟩),
(32, ⟨.other, 1, 8, [.nilf], none⟩),
(33, ⟨.flt .f64, 1, 8, [.flt .f64 0], some (.flt .f64)⟩),
(34, ⟨.other, 1, 8, [.nilf], none⟩),
(35, ⟨.other, 1, 8, [.nilf], none⟩),
(36, ⟨.other, 1, 8, [.nilf], none⟩),
(37, ⟨.other, 1, 8, [.nilf], none⟩),
(38, ⟨.slc 45, 1, 24, [.nils], none⟩),
(40, ⟨.other, 1, 8, [.nilf], none⟩),
(42, ⟨.other, 1, 8, [.nilf], none⟩),
(43, ⟨.other, 1, 8, [.nilf], none⟩),
(44, ⟨.struct [(0, 24), (1, 24), (2, 24)], 3, 12, [.flt .f32 0, .flt .f32 0, .flt .f32 0], none⟩),
(45, ⟨.struct [(0, 24), (1, 24), (2, 24)], 3, 12, [.flt .f32 0, .flt .f32 0, .flt .f32 0], some .vec⟩),
(46, ⟨.other, 1, 8, [.nilf], none⟩),
(47, ⟨.ptr 70, 1, 8, [.nilp], none⟩),
(48, ⟨.other, 1, 8, [.nilf], none⟩),
(49, ⟨.other, 1, 8, [.nilf], none⟩),
(50, ⟨.other, 1, 8, [.nilf], none⟩),
(51, ⟨.other, 1, 8, [.nilf], none⟩),
(52, ⟨.other, 1, 8, [.nilf], none⟩)
]
theorem tlOk1 : AllT Try.prog tl1 := ⟨ti25, ti26, ti27, ti28, ti30, ti32, ti33, ti34, ti35, ti36, ti37, ti38, ti40, ti42, ti43, ti44, ti45, ti46, ti47, ti48, ti49, ti50, ti51, ti52, trivial⟩
def tl2 : List (Nat × TI) := [
(53, ⟨.other, 1, 8, [.nilf], none⟩),
(54, ⟨.other, 1, 8, [.nilf], none⟩),
(55, ⟨.other, 1, 8, [.nilf], none⟩),
(56, ⟨.other, 1, 8, [.nilf], none⟩),
(58, ⟨.other, 1, 8, [.nilf], none⟩),
(59, ⟨.other, 1, 8, [.nilf], none⟩),
(60, ⟨.arr 3 33, 3, 24, [.flt .f64 0, .flt .f64 0, .flt .f64 0], none⟩),
(61, ⟨.arr 3 33, 3, 24, [.flt .f64 0, .flt .f64 0, .flt .f64 0], none⟩),
(62, ⟨.other, 1, 8, [.nilf], none⟩),
(63, ⟨.other, 1, 8, [.nilf], none⟩),
(64, ⟨.other, 1, 8, [.nilf], none⟩),
(65, ⟨.other, 1, 8, [.nilf], none⟩),
(67, ⟨.other, 1, 8, [.nilf], none⟩),
(68, ⟨.int .u64, 1, 8, [.int .u64 0], some (.int .u64)⟩),
(69, ⟨.struct [(0, 22), (1, 3), (2, 68)], 3, 40, [.nils, .int .i64 0, .int .u64 0], none⟩),
(70, ⟨.struct [(0, 22), (1, 3), (2, 68)], 3, 40, [.nils, .int .i64 0, .int .u64 0], none⟩),
(71, ⟨.other, 1, 8, [.nilf], none⟩),
(72, ⟨.other, 1, 8, [.nilf], none⟩),
(73, ⟨.other, 1, 8, [.nilf], none⟩),
(74, ⟨.other, 1, 8, [.nilf], none⟩),
(75, ⟨.other, 1, 8, [.nilf], none⟩),
(77, ⟨.other, 1, 8, [.nilf], none⟩),
(78, ⟨.other, 1, 8, [.nilf], none⟩),
(79, ⟨.other, 1, 8, [.nilf], none⟩)
]
theorem tlOk2 : AllT Try.prog tl2 := ⟨ti53, ti54, ti55, ti56, ti58, ti59, ti60, ti61, ti62, ti63, ti64, ti65, ti67, ti68, ti69, ti70, ti71, ti72, ti73, ti74, ti75, ti77, ti78, ti79, trivial⟩
def tl3 : List (Nat × TI) := [
(80, ⟨.other, 1, 8, [.nilf], none⟩),
(81, ⟨.int .u64, 1, 8, [.int .u64 0], some (.int .u64)⟩),
(82, ⟨.other, 1, 8, [.nilf], none⟩),
(83, ⟨.other, 1, 8, [.nilf], none⟩),
(84, ⟨.other, 1, 8, [.nilf], none⟩),
(85, ⟨.slc 24, 1, 24, [.nils], none⟩),
(86, ⟨.other, 1, 8, [.nilf], none⟩),
(87, ⟨.other, 1, 8, [.nilf], none⟩),
(88, ⟨.other, 1, 8, [.nilf], none⟩),
(90, ⟨.other, 1, 8, [.nilf], none⟩),
(91, ⟨.other, 1, 8, [.nilf], none⟩),
(92, ⟨.other, 1, 8, [.nilf], none⟩),
(93, ⟨.other, 1, 8, [.nilf], none⟩),
(94, ⟨.struct [(0, 17), (1, 17), (2, 17), (3, 9)], 4, 40, [.nilp, .nilp, .nilp, .str []], none⟩),
(95, ⟨.struct [(0, 17), (1, 17), (2, 17), (3, 9)], 4, 40, [.nilp, .nilp, .nilp, .str []], none⟩),
(96, ⟨.arr 0 16, 0, 0, [], none⟩),
(97, ⟨.struct [(0, 96)], 0, 0, [], none⟩),
(98, ⟨.struct [(0, 96)], 0, 0, [], none⟩),
(99, ⟨.other, 1, 8, [.nilf], none⟩),
(100, ⟨.int .u32, 1, 4, [.int .u32 0], some (.int .u32)⟩),
(101, ⟨.int .u8, 1, 1, [.int .u8 0], some (.int .u8)⟩),
(102, ⟨.int .u8, 1, 1, [.int .u8 0], some (.int .u8)⟩),
(103, ⟨.other, 1, 8, [.nilf], none⟩),
(104, ⟨.ptr 5, 1, 8, [.nilp], none⟩)
]
theorem tlOk3 : AllT Try.prog tl3 := ⟨ti80, ti81, ti82, ti83, ti84, ti85, ti86, ti87, ti88, ti90, ti91, ti92, ti93, ti94, ti95, ti96, ti97, ti98, ti99, ti100, ti101, ti102, ti103, ti104, trivial⟩
def tl4 : List (Nat × TI) := [
(105, ⟨.int .i32, 1, 4, [.int .i32 0], some (.int .i32)⟩),
(106, ⟨.int .i32, 1, 4, [.int .i32 0], some (.int .i32)⟩),
(107, ⟨.struct [(0, 12), (1, 12), (2, 100), (3, 101), (4, 5), (5, 5), (6, 102), (7, 103), (8, 104), (9, 105), (10, 106)], 11, 48, [.int .u64 0, .int .u64 0, .int .u32 0, .int .u8 0, .int .u8 0, .int .u8 0, .int .u8 0, .nilf, .nilp, .int .i32 0, .int .i32 0], none⟩),
(108, ⟨.struct [(0, 12), (1, 12), (2, 100), (3, 101), (4, 5), (5, 5), (6, 102), (7, 103), (8, 104), (9, 105), (10, 106)], 11, 48, [.int .u64 0, .int .u64 0, .int .u32 0, .int .u8 0, .int .u8 0, .int .u8 0, .int .u8 0, .nilf, .nilp, .int .i32 0, .int .i32 0], none⟩),
(109, ⟨.other, 1, 8, [.nilp], none⟩)
]
theorem tlOk4 : AllT Try.prog tl4 := ⟨ti105, ti106, ti107, ti108, ti109, trivial⟩
def tab : TT := tget2 [tl0, tl1, tl2, tl3, tl4]
theorem tab_ok : TTOK Try.prog tab := tget2_ok _ ⟨tlOk0, tlOk1, tlOk2, tlOk3, tlOk4, trivial⟩
end Go.Proofs.Ytomdjbkididieaa
