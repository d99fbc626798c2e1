/- The engine's contract of impl.readDigits: eight digits read. Walked, with the contract of impl.digits. -/
import Derived.Test.YtacelaaifaffpaaGreatDoorGd
import Derived.Test.YtacelaaifaffpaaGreatDoorPu
import Derived.Test.YtacelaaifaffpaaGreatDoorEngR
namespace Go.Proofs.YtacelaaifaffpaaGreatDoor
open Go.RowKit Go.Extern
set_option linter.unusedVariables false
set_option linter.unusedSimpArgs false

theorem IvOK.below {w w' : World} (h : IvOK w) (hb : Below w.heap.size w w') : IvOK w' :=
  ⟨ivW_closed h.1 fun n hn => hb.block n (h.2 n hn), fun n hn => Nat.lt_of_lt_of_le (h.2 n hn) hb.size⟩

/-- What impl.readDigits answers. -/
noncomputable def readD (s : List UInt8) : Nat × Bool := (canon .f32 (valP (parseS s)), okP (parseS s) && (impl_digits (canon .f32 (valP (parseS s))) == s))

theorem frombits_run (n : Int) (w : World) : (callFunc 55 #[.int .u32 n]).run Tryz.prog w = .ok (.value (.float .f32 n.toNat)) w := by
  rw [run_callFunc_extern (f := 55) (e := MathFloatBits.float32frombits) Tryz.func55 (by kernel_rfl) (by kernel_rfl) (by kernel_rfl) (by kernel_rfl)]
  rfl

set_option maxRecDepth 100000 in
/-- impl.digits, as the walk asks for it. -/
theorem digits_calls (b : Nat) (w : World) (hiv : IvOK w) (hn : impl_digits_need (canon .f32 b) = true) :
    Calls Tryz.prog 38 #[.float .f32 b] w fun e w' => ∃ ba : ByteArray, e = .returned (.string ba) ∧ ba.data.toList = impl_digits (canon .f32 b) ∧ Below w.heap.size w w' := by
  have hF : impl_digits_c.fn [.flt .f32 (canon .f32 b)] = some ⟨.str (impl_digits (canon .f32 b)), []⟩ := by
    show (DT.need (impl_digits_need _) (.leaf (impl_digits_mk (impl_digits _)))).get = _
    rw [hn]
    rfl
  refine (calls_of_fun (x := bodyOf Tryz.f38) Tryz.func38 (by kernel_rfl) (by kernel_rfl) (impl_digits_ok w _ #[.float .f32 b] _ hiv hF (by
    simp only [VSims]
    exact ⟨by simp only [VSim]; exact ⟨b, rfl, rfl⟩, trivial⟩))).mono fun e w' ⟨v, he, hR⟩ => ?_
  have hb := below_of_ret hR
  obtain ⟨pr, φ, hv, _⟩ := hR
  simp only [VSim] at hv
  obtain ⟨ba, rfl, hd⟩ := hv
  exact ⟨ba, he, hd, hb⟩

theorem valP_lt (l : List UInt8) : ∀ acc, acc ≤ 4294967295 → valP (parse16 acc l) ≤ 4294967295 := by
  induction l with
  | nil => intro acc h; exact h
  | cons c r ih =>
    intro acc h
    unfold parse16
    cases hexV c with
    | none => exact Nat.zero_le _
    | some d =>
      by_cases h2 : 4294967295 < acc * 16 + d
      · simp only [h2, if_true]; exact Nat.le_refl _
      · simp only [h2, if_false]; exact ih _ (by omega)
theorem valS_lt (l : List UInt8) : valP (parseS l) ≤ 4294967295 := by
  unfold parseS
  split
  · exact Nat.zero_le _
  · exact valP_lt _ 0 (by omega)

set_option maxHeartbeats 4000000 in
set_option maxRecDepth 100000 in
theorem readDigits_ok_w (s : ByteArray) (hlim : s.size ≤ 281474976710656) (n : Nat) (h : parseS s.data.toList = .ok n) (hn : impl_digits_need (canon .f32 n) = true) (w : World) (hiv : IvOK w) :
    Calls Tryz.prog 41 #[.string s] w fun e w' => e = .returned (.tuple #[.float .f32 n, .bool (impl_digits (canon .f32 n) == s.data.toList)]) ∧ Below w.heap.size w w' := by
  have hlt : n ≤ 4294967295 := by have := valS_lt s.data.toList; rw [h] at this; exact this
  have hP := parse_ok s hlim n h w
  have HV := Lib.hid hiv
  have HNd := Lib.hid hn
  clear h hn hiv
  have hfb := frombits_run (n : Int)
  have e1 : ((n : Int)).toNat = n := Int.toNat_natCast n
  rw [e1] at hfb
  clear e1
  go_enter Tryz.func41, Tryz.ntmps41
  go_wp2_with (go_at_call 54; refine hP.mono ?_; rintro e W1 ⟨rfl, hb1⟩)
  clear hP
  have hD := digits_calls n W1 (HV.out.below hb1) HNd.out
  go_wp2_with fail
  refine hD.mono ?_
  rintro e W2 ⟨ba, rfl, hd, hb2⟩
  have HDg := Lib.hid hd
  clear hd hD hfb
  go_wp2
  go_ret2
  refine ⟨?_, hb1.trans (hb2.mono hb1.size)⟩
  have e : (ba.toList == s.toList) = (impl_digits (canon .f32 n) == s.data.toList) := by rw [ByteArray.toList_eq, ByteArray.toList_eq, HDg.out]
  rw [← e]
  rfl

set_option maxHeartbeats 4000000 in
set_option maxRecDepth 100000 in
theorem readDigits_no_w (s : ByteArray) (hlim : s.size ≤ 281474976710656) (n : Nat) (h : (parseS s.data.toList = .syn ∧ n = 0) ∨ (parseS s.data.toList = .rng ∧ n = 4294967295)) (w : World) (hiv : IvOK w) :
    Calls Tryz.prog 41 #[.string s] w fun e w' => e = .returned (.tuple #[.float .f32 n, .bool false]) ∧ Below w.heap.size w w' := by
  have hE : ErrVarsP w := hiv.1.errs
  have hP : Calls Tryz.prog 54 #[.string s, .int .i64 16, .int .i64 32] w fun e w' => ∃ N, e = .returned (.tuple #[.int .u64 (n : Int), .iface 115 (.pointer (some ⟨N, 0, none⟩))]) ∧ Below w.heap.size w w' := by
    rcases h with ⟨h, rfl⟩ | ⟨h, rfl⟩
    · exact parse_syn s hlim h w hE
    · exact parse_rng s hlim h w hE
  have hlt : n ≤ 4294967295 := by rcases h with ⟨_, rfl⟩ | ⟨_, rfl⟩ <;> omega
  clear h hE
  have hfb := frombits_run (n : Int)
  have e1 : ((n : Int)).toNat = n := Int.toNat_natCast n
  rw [e1] at hfb
  clear e1
  go_enter Tryz.func41, Tryz.ntmps41
  go_wp2_with (go_at_call 54; refine hP.mono ?_; rintro e W1 ⟨N, rfl, hb1⟩)
  clear hP
  go_wp2
  go_ret2
  exact ⟨rfl, hb1⟩

noncomputable def impl_readDigits_c : Con := fun args => match args with
  | [.str s] => some (.need (decide (List.length s ≤ 281474976710656) && impl_digits_need (canon .f32 (valP (parseS s)))) (.leaf ⟨.tup [.flt .f32 (readD s).1, .bool (readD s).2], []⟩))
  | _ => none

theorem ret_tup {w w' : World} {vs : Array Value} (hiv : IvOK w) (hb : Below w.heap.size w w') {b x : Nat} {c : Bool} (hx : canon .f32 b = x) : RetSim w w' vs ⟨.tup [.flt .f32 x, .bool c], []⟩ (.tuple #[.float .f32 b, .bool c]) := by
  have hr : RetSim w w' vs ⟨.bool c, []⟩ (.bool c) := ret_below hiv hb rfl (by simp only [VSim])
  obtain ⟨pr, φ, _, hh⟩ := hr
  refine ⟨pr, φ, ?_, ?_⟩
  · simp only [VSim]
    exact ⟨_, rfl, by simp only [VSims, VSim, and_true]; exact ⟨b, rfl, hx⟩⟩
  · exact ⟨fun id b h => (by cases h), fun id b n h => (by cases h), fun i j bi bj n h => (by cases h), hh.fr, hh.os, hh.tape, hh.output, hh.sz, hh.prlt, hh.iv⟩

set_option maxRecDepth 100000 in
theorem impl_readDigits_ok : FunOK Tryz.prog 41 impl_readDigits_c.fn := by
  intro w args vs r hiv hF hv
  unfold Con.fn impl_readDigits_c at hF
  split at hF
  · rename_i t ht
    split at ht
    · rename_i s
      cases ht
      cases hc : (decide (List.length s ≤ 281474976710656) && impl_digits_need (canon .f32 (valP (parseS s)))) with
      | false => rw [hc] at hF; cases hF
      | true =>
        rw [hc] at hF
        simp only [DT.get, Option.some.injEq] at hF
        subst hF
        rw [Bool.and_eq_true, decide_eq_true_eq] at hc
        obtain ⟨v, rfl, hv⟩ := one_arg hv
        simp only [VSim] at hv
        obtain ⟨ba, rfl, rfl⟩ := hv
        have hlim : ba.size ≤ 281474976710656 := by rw [Lib.size_eq]; exact hc.1
        unfold readD
        cases hp : parseS ba.data.toList with
        | ok n =>
          rw [hp] at hc
          have h := readDigits_ok_w ba hlim n hp hc.2 w hiv
          refine callsTo_of Tryz.func41 (x := bodyOf Tryz.f41) (by kernel_rfl) (by kernel_rfl) (Calls.mono h fun e w' he => ?_)
          obtain ⟨rfl, hB⟩ := he
          exact ret_tup hiv hB rfl
        | syn =>
          have h := readDigits_no_w ba hlim 0 (.inl ⟨hp, rfl⟩) w hiv
          refine callsTo_of Tryz.func41 (x := bodyOf Tryz.f41) (by kernel_rfl) (by kernel_rfl) (Calls.mono h fun e w' he => ?_)
          obtain ⟨rfl, hB⟩ := he
          exact ret_tup hiv hB rfl
        | rng =>
          have h := readDigits_no_w ba hlim 4294967295 (.inr ⟨hp, rfl⟩) w hiv
          refine callsTo_of Tryz.func41 (x := bodyOf Tryz.f41) (by kernel_rfl) (by kernel_rfl) (Calls.mono h fun e w' he => ?_)
          obtain ⟨rfl, hB⟩ := he
          exact ret_tup hiv hB rfl
    · cases ht
  · cases hF

end Go.Proofs.YtacelaaifaffpaaGreatDoor
