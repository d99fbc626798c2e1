/- Contracts of the engine that are walked by hand, or stand on the shelf: a new source of choices. -/
import Derived.Test.YtilfdpllleninaaTab
import Derived.Test.YtilfdpllleninaaEngR
import Derived.Lib.Walk
import Derived.Lib.Hide
namespace Go.Proofs.Ytilfdpllleninaa
open Go.RowKit Go.Extern
set_option linter.unusedVariables false
set_option linter.unusedSimpArgs false

theorem ret_below {w w' : World} {vs : Array Value} (hiv : IvOK w) (hb : Go.RowKit.Below w.heap.size w w') {p : PV} (hp : p.plain = true) {v : Value} (hv : VSim (argCx w vs) p v) : RetSim w w' vs ⟨p, []⟩ v :=
  ⟨fun n => n < w.heap.size, fun _ => undef, VSim.plain hp hv, ⟨fun id b h => (by cases h), fun id b n h => (by cases h), fun i j bi bj n h => (by cases h), fun n hn _ => hb.block n hn, hb.os, hb.tape, hb.output, hb.size, fun n hn => Nat.lt_of_lt_of_le hn hb.size, hiv.1, fun n hn => ⟨hiv.2 n hn, fun e => e⟩⟩⟩

/-- A new source: the bytes, the place, the seed. -/
def spec_l00From_M : NCon := fun args => match args with
  | [.vslc 1 (.int .u8) xs] => some [.vslc 1 (.int .u8) xs, .int .i64 0, .int .u64 0]
  | _ => none

set_option maxRecDepth 100000 in
theorem from_calls (a : Option Addr) (n m : Nat) (w : World) :
    Calls Try.prog 54 #[.slice a n m] w fun e w' => e = .returned (.pointer (some ⟨w.heap.size, 0, none⟩)) ∧ w' = w.alloc (.cells #[.slice a n m, .int .i64 0, .int .u64 0] 114) := by
  go_enter Try.func54, Try.ntmps54
  go_wp2
  go_ret
  exact ⟨rfl, rfl⟩

set_option maxRecDepth 100000 in
theorem spec_l00From_ok : NewOK Try.prog 54 spec_l00From_M := by
  intro w args vs cs hiv hM hv
  unfold spec_l00From_M at hM
  split at hM
  · cases hM
    obtain ⟨v, rfl, hv⟩ := one_arg hv
    have hv' := hv
    simp only [VSim] at hv
    obtain ⟨_, a, m, rfl, hm, hw⟩ := hv
    refine callsTo_of Try.func54 (x := bodyOf Try.f54) (by kernel_rfl) (by kernel_rfl) ((from_calls a _ m w).mono fun e w' he => ?_)
    obtain ⟨rfl, rfl⟩ := he
    exact ⟨w.heap.size, _, _, rfl, Nat.le_refl _, heap_alloc_new w _, by simp only [VSims]; exact ⟨hv', by simp only [VSim], by simp only [VSim], trivial⟩, fun n hn => (by first | exact heap_alloc_old _ _ hn | exact heap_alloc_old _ _ _ hn), rfl, rfl, rfl, by simp⟩
  · cases hM

end Go.Proofs.Ytilfdpllleninaa
