/- The engine, part Qc: numbers written at base ten, by the shelf's contract. -/
import Derived.Test.YtcipkfndnkmjlaaDoorEngQb
import Derived.Test.YtcipkfndnkmjlaaDoorShelf
import Derived.Lib.AppendIntMem
namespace Go.Proofs.YtcipkfndnkmjlaaDoor
set_option linter.unusedVariables false
set_option linter.unusedSimpArgs false

theorem ret_below {w w' : World} {vs : Array Value} (hiv : IvOK w) (hb : Go.RowKit.Below w.heap.size w w') {p : PV} (hp : p.plain = true) {v : Value} (hv : VSim (argCx w vs) p v) : RetSim w w' vs ⟨p, []⟩ v :=
  ⟨fun n => n < w.heap.size, fun _ => undef, VSim.plain hp hv, ⟨fun id b h => (by cases h), fun id b n h => (by cases h), fun i j bi bj n h => (by cases h), fun n hn _ => hb.block n hn, hb.os, hb.tape, hb.output, hb.size, fun n hn => Nat.lt_of_lt_of_le hn hb.size, hiv.1, fun n hn => ⟨hiv.2 n hn, fun e => e⟩⟩⟩

def strconv_FormatInt_c : Con := fun args => match args with
  | [.int .i64 n, .int .i64 b] => bif decide (b = 10) then some (.need (decide (-9223372036854775808 ≤ n) && decide (n ≤ 9223372036854775807)) (.leaf ⟨.str (Go.Lib.itoa n), []⟩)) else none
  | _ => none

set_option maxRecDepth 100000 in
theorem strconv_FormatInt_ok : FunOK Tryd.prog 120 strconv_FormatInt_c.fn := by
  intro w args vs r hiv hF hv
  unfold Con.fn strconv_FormatInt_c at hF
  split at hF
  · rename_i t ht
    split at ht
    · rename_i n b
      obtain ⟨hb, ht⟩ := bif_some ht
      subst hb
      cases ht
      cases hc : (decide (-9223372036854775808 ≤ n) && decide (n ≤ 9223372036854775807)) with
      | false => rw [hc] at hF; cases hF
      | true =>
        rw [hc] at hF
        simp only [DT.get, Option.some.injEq] at hF
        subst hF
        rw [Bool.and_eq_true, decide_eq_true_eq, decide_eq_true_eq] at hc
        obtain ⟨u, v, rfl, hu, hq⟩ := two_args hv
        simp only [VSim] at hu hq
        subst hu hq
        have h := Any.strconv_FormatInt_10 Tryd.lays173 n hc.1 hc.2 w hiv.1
        refine callsTo_of Tryd.func120 (x := bodyOf Tryd.f120) (by kernel_rfl) (by kernel_rfl) (Calls.mono h fun e w' he => ?_)
        obtain ⟨rfl, k, os, rfl⟩ := he
        refine ret_below hiv (Go.Lib.below_grow _ w (Nat.le_refl _) k os) rfl ?_
        simp only [VSim]
        exact ⟨_, rfl, rfl⟩
    · cases ht
  · cases hF

end Go.Proofs.YtcipkfndnkmjlaaDoor
