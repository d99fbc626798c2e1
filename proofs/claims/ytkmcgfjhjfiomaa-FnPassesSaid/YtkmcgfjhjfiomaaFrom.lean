/- Contracts of the engine that are walked by hand, or stand on the shelf: a new source of choices; the sign of a number that is one; slices.Grow of a nil slice. -/
import Derived.Test.YtkmcgfjhjfiomaaTab
import Derived.Test.YtkmcgfjhjfiomaaEngR
import Derived.Test.YtkmcgfjhjfiomaaShelfGr
import Derived.Shelf.Spec.SlicesGrow
import Derived.Lib.Walk
import Derived.Lib.Hide
namespace Go.Proofs.Ytkmcgfjhjfiomaa
open Go.RowKit Go.Extern
set_option linter.unusedVariables false
set_option linter.unusedSimpArgs false

theorem ret_below {w w' : World} {vs : Array Value} (hiv : IvOK w) (hb : Go.RowKit.Below w.heap.size w w') {p : PV} (hp : p.plain = true) {v : Value} (hv : VSim (argCx w vs) p v) : RetSim w w' vs ⟨p, []⟩ v :=
  ⟨fun n => n < w.heap.size, fun _ => undef, VSim.plain hp hv, ⟨fun id b h => (by cases h), fun id b n h => (by cases h), fun i j bi bj n h => (by cases h), fun n hn _ => hb.block n hn, hb.os, hb.tape, hb.output, hb.size, fun n hn => Nat.lt_of_lt_of_le hn hb.size, hiv.1, fun n hn => ⟨hiv.2 n hn, fun e => e⟩⟩⟩

/-- A new source: the bytes, the place, the seed. -/
def spec_l00From_M : NCon := fun args => match args with
  | [.vslc 1 (.int .u8) xs] => some [.vslc 1 (.int .u8) xs, .int .i64 0, .int .u64 0]
  | _ => none

set_option maxRecDepth 100000 in
theorem from_calls (a : Option Addr) (n m : Nat) (w : World) :
    Calls Try.prog 37 #[.slice a n m] w fun e w' => e = .returned (.pointer (some ⟨w.heap.size, 0, none⟩)) ∧ w' = w.alloc (.cells #[.slice a n m, .int .i64 0, .int .u64 0] 120) := by
  go_enter Try.func37, Try.ntmps37
  go_wp2
  go_ret
  exact ⟨rfl, rfl⟩

set_option maxRecDepth 100000 in
theorem spec_l00From_ok : NewOK Try.prog 37 spec_l00From_M := by
  intro w args vs cs hiv hM hv
  unfold spec_l00From_M at hM
  split at hM
  · cases hM
    obtain ⟨v, rfl, hv⟩ := one_arg hv
    have hv' := hv
    simp only [VSim] at hv
    obtain ⟨_, a, m, rfl, hm, hw⟩ := hv
    refine callsTo_of Try.func37 (x := bodyOf Try.f37) (by kernel_rfl) (by kernel_rfl) ((from_calls a _ m w).mono fun e w' he => ?_)
    obtain ⟨rfl, rfl⟩ := he
    exact ⟨w.heap.size, _, _, rfl, Nat.le_refl _, heap_alloc_new w _, by simp only [VSims]; exact ⟨hv', by simp only [VSim], by simp only [VSim], trivial⟩, fun n hn => heap_alloc_old _ _ hn, rfl, rfl, rfl, by simp⟩
  · cases hM

def math_Signbit_c : Con := fun args => match args with
  | [.flt .f64 x] => some (.need (!isNaN .f64 x) (.leaf ⟨.bool (decide (IntKind.wrap .i64 ((x : Nat) : Int) < 0)), []⟩))
  | _ => none

theorem bits_run (b : Nat) (w : World) : (callFunc 113 #[.float .f64 b]).run Try.prog w = .ok (.value (.int .u64 b)) w := by
  rw [run_callFunc_extern (f := 113) (e := MathFloatBits.float64bits) Try.func113 (by kernel_rfl) (by kernel_rfl) (by kernel_rfl) (by kernel_rfl)]
  rfl

set_option maxRecDepth 100000 in
theorem signbit_calls (b : Nat) (w : World) :
    Calls Try.prog 106 #[.float .f64 b] w fun e w' => e = .returned (.bool (decide (IntKind.wrap .i64 (b : Int) < 0))) ∧ w' = w := by
  have hb := bits_run b
  go_enter Try.func106, Try.ntmps106
  go_wp2
  go_ret
  exact ⟨by rw [IntWalk.i64_left]; rfl, rfl⟩

set_option maxRecDepth 100000 in
theorem math_Signbit_ok : FunOK Try.prog 106 math_Signbit_c.fn := by
  intro w args vs r hiv hF hv
  unfold Con.fn math_Signbit_c at hF
  split at hF
  · rename_i t ht
    split at ht
    · rename_i x
      cases ht
      cases hn : isNaN .f64 x with
      | true => rw [hn] at hF; cases hF
      | false =>
        rw [hn] at hF
        simp only [Bool.not_false, DT.get, Option.some.injEq] at hF
        subst hF
        obtain ⟨v, rfl, hv⟩ := one_arg hv
        simp only [VSim] at hv
        obtain ⟨b, rfl, hb⟩ := hv
        have hbx : b = x := by
          rcases canon_of .f64 b with ⟨_, e⟩ | ⟨_, e⟩
          · rw [← hb, e]
          · rw [← hb, e, isNaN_qnan] at hn
            cases hn
        subst hbx
        refine callsTo_of Try.func106 (x := bodyOf Try.f106) (by kernel_rfl) (by kernel_rfl) ((signbit_calls b w).mono fun e w' he => ?_)
        obtain ⟨rfl, rfl⟩ := he
        exact ret_below hiv (Below.refl _ _) rfl (by simp only [VSim])
    · cases ht
  · cases hF

/-! ## slices.Grow of a nil slice -/

def slices_Grow_c : Con := fun args => match args with
  | [.nils, .int .i64 n] => some (.need (decide (0 ≤ n) && decide (n * 28 ≤ 140737488355328)) (.ask (decide (0 < n)) (.leaf ⟨.own 0, [.typed 72 .body []]⟩) (.leaf ⟨.nils, []⟩)))
  | _ => none

theorem two_vs {w : World} {vs : Array Value} {p q : PV} (h : VSims (argCx w vs) [p, q] vs.toList) : ∃ u v, vs = #[u, v] ∧ VSim (argCx w vs) p u ∧ VSim (argCx w vs) q v := by
  obtain ⟨l⟩ := vs
  cases l with
  | nil => simp [VSims] at h
  | cons u r => cases r with
    | nil => simp [VSims] at h
    | cons v r => cases r with
      | nil => simp only [VSims, and_true] at h; exact ⟨u, v, rfl, h.1, h.2⟩
      | cons x r => simp [VSims] at h

set_option maxRecDepth 100000 in
theorem slices_Grow_ok : FunOK Try.prog 105 slices_Grow_c.fn := by
  intro w args vs r hiv hF hv
  unfold Con.fn slices_Grow_c at hF
  split at hF
  · rename_i t ht
    split at ht
    · rename_i n
      cases ht
      cases hc : (decide (0 ≤ n) && decide (n * 28 ≤ 140737488355328)) with
      | false => rw [hc] at hF; cases hF
      | true =>
        rw [hc] at hF
        rw [Bool.and_eq_true, decide_eq_true_eq, decide_eq_true_eq] at hc
        obtain ⟨u, v, rfl, hu, hw⟩ := two_vs hv
        simp only [VSim] at hu hw
        subst hu hw
        obtain ⟨k, rfl⟩ : ∃ k : Nat, n = (k : Int) := ⟨n.toNat, by omega⟩
        by_cases hk : 0 < k
        · have hd : decide ((0 : Int) < (k : Int)) = true := decide_eq_true (by omega)
          simp only [DT.get, hd, Option.some.injEq] at hF
          subst hF
          obtain ⟨i0, z, hi0, hz0, hs0, hb0, hzs⟩ : ∃ (i0 : TypeInfo) (z : Value), Try.prog.info? 72 = some i0 ∧ i0.zero = some z ∧ i0.size = 7 ∧ i0.bytes = 28 ∧ z.cells.size = 7 := by
            refine ⟨_, _, rfl, rfl, ?_, ?_, ?_⟩ <;> kernel_rfl
          have h := Any8.slices_Grow_grow Try.growE i0 z hi0 hz0 (by omega) none 0 0 k [] w (Nat.le_refl _) (by omega) (by rw [hb0]; omega) (by omega) (by simp) (fun _ => rfl) (fun a h => by cases h)
          refine callsTo_of Try.func105 (x := bodyOf Try.f105) (by kernel_rfl) (by kernel_rfl) (Calls.mono h fun e w' he => ?_)
          obtain ⟨rfl, rfl⟩ := he
          generalize hG : grownCap w (0 + k) 0 _ = G
          have hGn : 0 + k ≤ G := by rw [← hG]; exact grownCap_ge w _ _ _
          have hGm : G ≤ maxLen := by rw [← hG]; exact grownCap_le_maxLen w _ _ _ (by unfold maxLen; omega)
          have hcs : ((#[] : Array Value) ++ Builtin.zeroCells z.cells (0 + k - 0) ++ Builtin.zeroCells z.cells (G - (0 + k))).size = G * 7 := by
            simp only [Array.size_append, Array.size_empty, size_zeroCells, hzs]
            omega
          refine ⟨fun m => m < w.heap.size, fun _ => .slice (some ⟨w.heap.size, 0, none⟩) 0 G, ?_, ⟨fun id b h => ?_, fun id b m h hm => ?_, fun i j bi bj m h1 h2 _ _ => ?_, fun m hm _ => heap_alloc_old _ _ hm, rfl, rfl, rfl, ?_, fun m hm => ?_, hiv.1, fun m hm => ⟨hiv.2 m hm, fun e => e⟩⟩⟩
          · simp only [VSim]
            exact ⟨Nat.zero_lt_one, rfl, _, _, _, rfl⟩
          · cases id with
            | zero =>
              simp only [lget, Option.some.injEq] at h
              subst h
              refine ⟨Nat.zero_lt_one, [], ⟨by simp, .inr ⟨w.heap.size, G, _, (0, 0), rfl, heap_alloc_new w.drew _, .inl rfl, Nat.zero_le _, hGm, ?_, by simp⟩⟩, trivial⟩
              exact hcs
            | succ id => simp [lget] at h
          · have hm : some w.heap.size = some m := hm
            cases hm
            exact ⟨.inl (Nat.le_refl _), fun h => Nat.lt_irrefl _ h⟩
          · have e : ∀ (i : Nat) (b : Blk), lget [Blk.typed 72 .body []] i = some b → i = 0 := fun i b h => by cases i with | zero => rfl | succ i => simp [lget] at h
            rw [e i bi h1, e j bj h2]
          · show w.heap.size ≤ (w.drew.alloc _).heap.size
            rw [World.size_alloc]
            exact Nat.le_succ _
          · show m < (w.drew.alloc _).heap.size
            rw [World.size_alloc]
            exact Nat.lt_succ_of_lt hm
        · have hd : decide ((0 : Int) < (k : Int)) = false := decide_eq_false (by omega)
          simp only [DT.get, hd, Option.some.injEq] at hF
          subst hF
          have h0 : k = 0 := by omega
          subst h0
          have h := Any8.slices_Grow_room Try.growE none 0 0 0 w (Nat.le_refl _) (by omega) (by omega) (by omega)
          refine callsTo_of Try.func105 (x := bodyOf Try.f105) (by kernel_rfl) (by kernel_rfl) (Calls.mono h fun e w' he => ?_)
          obtain ⟨rfl, rfl⟩ := he
          exact ret_below hiv (Below.refl _ _) rfl (by simp only [VSim])
    · cases ht
  · cases hF

end Go.Proofs.Ytkmcgfjhjfiomaa
