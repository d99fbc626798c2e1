/- Contracts of the engine that are walked by hand, or stand on the shelf: a new source of choices; the sign of a number that is one. -/
import Derived.Test.YtfbnehkbialkaaaGreatTab
import Derived.Test.YtfbnehkbialkaaaGreatEngR
import Derived.Lib.Walk
import Derived.Lib.Hide
import Derived.IntWalk
namespace Go.Proofs.YtfbnehkbialkaaaGreat
open Go.RowKit Go.Extern
set_option linter.unusedVariables false
set_option linter.unusedSimpArgs false

theorem ret_below {w w' : World} {vs : Array Value} (hiv : IvOK w) (hb : Go.RowKit.Below w.heap.size w w') {p : PV} (hp : p.plain = true) {v : Value} (hv : VSim (argCx w vs) p v) : RetSim w w' vs ⟨p, []⟩ v :=
  ⟨fun n => n < w.heap.size, fun _ => undef, VSim.plain hp hv, ⟨fun id b h => (by cases h), fun id b n h => (by cases h), fun i j bi bj n h => (by cases h), fun n hn _ => hb.block n hn, hb.os, hb.tape, hb.output, hb.size, fun n hn => Nat.lt_of_lt_of_le hn hb.size, hiv.1, fun n hn => ⟨hiv.2 n hn, fun e => e⟩⟩⟩

/-- A new source: the bytes, the place, the seed. -/
def spec_l00From_M : NCon := fun args => match args with
  | [.vslc 1 (.int .u8) xs] => some [.vslc 1 (.int .u8) xs, .int .i64 0, .int .u64 0]
  | _ => none

set_option maxRecDepth 100000 in
theorem from_calls (a : Option Addr) (n m : Nat) (w : World) :
    Calls Tryz.prog 22 #[.slice a n m] w fun e w' => e = .returned (.pointer (some ⟨w.heap.size, 0, none⟩)) ∧ w' = w.alloc (.cells #[.slice a n m, .int .i64 0, .int .u64 0] 85) := by
  go_enter Tryz.func22, Tryz.ntmps22
  go_wp2
  go_ret
  exact ⟨rfl, rfl⟩

set_option maxRecDepth 100000 in
theorem spec_l00From_ok : NewOK Tryz.prog 22 spec_l00From_M := by
  intro w args vs cs hiv hM hv
  unfold spec_l00From_M at hM
  split at hM
  · cases hM
    obtain ⟨v, rfl, hv⟩ := one_arg hv
    have hv' := hv
    simp only [VSim] at hv
    obtain ⟨_, a, m, rfl, hm, hw⟩ := hv
    refine callsTo_of Tryz.func22 (x := bodyOf Tryz.f22) (by kernel_rfl) (by kernel_rfl) ((from_calls a _ m w).mono fun e w' he => ?_)
    obtain ⟨rfl, rfl⟩ := he
    exact ⟨w.heap.size, _, _, rfl, Nat.le_refl _, heap_alloc_new w _, by simp only [VSims]; exact ⟨hv', by simp only [VSim], by simp only [VSim], trivial⟩, fun n hn => (by first | exact heap_alloc_old _ _ hn | exact heap_alloc_old _ _ _ hn), rfl, rfl, rfl, by simp⟩
  · cases hM

def math_Signbit_c : Con := fun args => match args with
  | [.flt .f64 x] => some (.need (!isNaN .f64 x) (.leaf ⟨.bool (decide (IntKind.wrap .i64 ((x : Nat) : Int) < 0)), []⟩))
  | _ => none

theorem bits_run (b : Nat) (w : World) : (callFunc 115 #[.float .f64 b]).run Tryz.prog w = .ok (.value (.int .u64 b)) w := by
  rw [run_callFunc_extern (f := 115) (e := MathFloatBits.float64bits) Tryz.func115 (by kernel_rfl) (by kernel_rfl) (by kernel_rfl) (by kernel_rfl)]
  rfl

set_option maxRecDepth 100000 in
theorem signbit_calls (b : Nat) (w : World) :
    Calls Tryz.prog 114 #[.float .f64 b] w fun e w' => e = .returned (.bool (decide (IntKind.wrap .i64 (b : Int) < 0))) ∧ w' = w := by
  have hb := bits_run b
  go_enter Tryz.func114, Tryz.ntmps114
  go_wp2
  go_ret
  exact ⟨by rw [IntWalk.i64_left]; rfl, rfl⟩

set_option maxRecDepth 100000 in
theorem math_Signbit_ok : FunOK Tryz.prog 114 math_Signbit_c.fn := by
  intro w args vs r hiv hF hv
  unfold Con.fn math_Signbit_c at hF
  split at hF
  · rename_i t ht
    split at ht
    · rename_i x
      cases ht
      cases hn : isNaN .f64 x with
      | true => rw [hn] at hF; cases hF
      | false =>
        rw [hn] at hF
        simp only [Bool.not_false, DT.get, Option.some.injEq] at hF
        subst hF
        obtain ⟨v, rfl, hv⟩ := one_arg hv
        simp only [VSim] at hv
        obtain ⟨b, rfl, hb⟩ := hv
        have hbx : b = x := by
          rcases canon_of .f64 b with ⟨_, e⟩ | ⟨_, e⟩
          · rw [← hb, e]
          · rw [← hb, e, isNaN_qnan] at hn
            cases hn
        subst hbx
        refine callsTo_of Tryz.func114 (x := bodyOf Tryz.f114) (by kernel_rfl) (by kernel_rfl) ((signbit_calls b w).mono fun e w' he => ?_)
        obtain ⟨rfl, rfl⟩ := he
        exact ret_below hiv (Below.refl _ _) rfl (by simp only [VSim])
    · cases ht
  · cases hF

end Go.Proofs.YtfbnehkbialkaaaGreat
