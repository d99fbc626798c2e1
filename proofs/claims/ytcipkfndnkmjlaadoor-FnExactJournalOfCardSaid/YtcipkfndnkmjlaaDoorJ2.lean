/- The engine's contract of impl.JournalOf: lines with their checks, written into a Builder. Walked, with the shelf's contracts of strings.Builder. -/
import Derived.Test.YtcipkfndnkmjlaaDoorJ1
import Derived.Test.YtcipkfndnkmjlaaDoorEngR
import Derived.Lib.Walk
import Derived.Lib.Hide
import Derived.Lib.SmallJoins
namespace Go.Proofs.YtcipkfndnkmjlaaDoor
open Go.RowKit Go.Extern
set_option linter.unusedVariables false
set_option linter.unusedSimpArgs false

theorem IvOK.below {w w' : World} (h : IvOK w) (hb : Below w.heap.size w w') : IvOK w' :=
  ⟨ivW_closed h.1 fun n hn => hb.block n (h.2 n hn), fun n hn => Nat.lt_of_lt_of_le (h.2 n hn) hb.size⟩

theorem builder_below {T e : TypeId} {B b : Nat} {bs : List Value} {w w' : World} (h : Lib.IsBuilderF T e B b bs w) (hb : Below w.heap.size w w') : Lib.IsBuilderF T e B b bs w' := by
  have key : ∀ {p : Value}, Lib.BuilderAtF T e B b p bs w → Lib.BuilderAtF T e B b p bs w' := by
    intro p h
    obtain ⟨hB, v, hbk, hown, hne⟩ := h
    refine ⟨hB, v, (hb.block b (Array.getElem?_eq_some_iff.1 hbk).1).trans hbk, ⟨hown.1, ?_⟩, hne⟩
    rcases hown.2 with h | ⟨g, cap, cur, fz, h1, h2, h3, h4⟩
    · exact .inl h
    · exact .inr ⟨g, cap, cur, fz, h1, h2, (hb.block g (Array.getElem?_eq_some_iff.1 h3).1).trans h3, h4⟩
  rcases h with h | h
  · exact .inl (key h)
  · exact .inr (key h)

theorem b_len (B b : Nat) (bs : List Value) (w : World) (h : Lib.IsBuilderF 113 5 B b bs w) :
    Calls Tryd.prog 81 #[.pointer (some ⟨b, 0, none⟩)] w fun e w' => e = .returned (.int .i64 bs.length) ∧ w' = w :=
  Any.Builder_Len_f (ρ := Tryd.lays105_ren) { Tryd.lays105 with } B b bs w h

theorem b_write (B b : Nat) (bs : List Value) (s : ByteArray) (w : World) (h : Lib.IsBuilderF 113 5 B b bs w) (hlen : bs.length + s.size ≤ 140737488355328) (hBw : B ≤ w.heap.size) :
    Calls Tryd.prog 83 #[.pointer (some ⟨b, 0, none⟩), .string s] w fun e w' => e = .returned (.tuple #[.int .i64 s.size, .nilIface]) ∧ Lib.IsBuilderF 113 5 B b (bs ++ Lib.strCells s) w' ∧ Below B w w' :=
  (Any.Builder_WriteString_f (ρ := Tryd.lays105_ren) { Tryd.lays105 with } extra105 B b bs s w h hlen hBw).mono fun e w' ⟨h1, h2, h3⟩ => ⟨h1, .inr h2, h3⟩

theorem b_string (B b : Nat) (l : List UInt8) (w : World) (h : Lib.IsBuilderF 113 5 B b (Lib.byteCells l) w) (hBw : B ≤ w.heap.size) :
    Calls Tryd.prog 85 #[.pointer (some ⟨b, 0, none⟩)] w fun e w' => e = .returned (.string ⟨l.toArray⟩) ∧ Below B w w' :=
  (Any.Builder_String_any_f (ρ := Tryd.lays105_ren) { Tryd.lays105 with } extra105 B b l w h hBw).mono fun e w' ⟨h1, _, h3⟩ => ⟨h1, h3⟩

set_option maxRecDepth 100000 in
theorem contains_calls (s : ByteArray) (w : World) (hiv : IvOK w) :
    Calls Tryd.prog 80 #[.string s, .string ⟨#[10]⟩] w fun e w' => e = .returned (.bool (s.data.toList.contains 10)) ∧ Below w.heap.size w w' := by
  have hF : strings_Contains_k10_c.fn [.str s.data.toList, .str [10]] = some ⟨.bool (s.data.toList.contains 10), []⟩ := by
    rw [← contains_eq]
    rfl
  refine (calls_of_fun (x := bodyOf Tryd.f80) Tryd.func80 (by kernel_rfl) (by kernel_rfl) (strings_Contains_k10_ok w _ #[.string s, .string ⟨#[10]⟩] _ hiv hF (by
    simp only [VSims, VSim]
    exact ⟨⟨s, rfl, rfl⟩, ⟨_, rfl, rfl⟩, trivial⟩))).mono fun e w' ⟨v, he, hR⟩ => ?_
  have hb := below_of_ret hR
  obtain ⟨pr, φ, hv, _⟩ := hR
  simp only [VSim] at hv
  subst hv
  exact ⟨he, hb⟩

set_option maxRecDepth 100000 in
theorem check_calls (n : Int) (s : ByteArray) (w : World) (hiv : IvOK w) (hn : impl_check_need n s.data.toList = true) :
    Calls Tryd.prog 82 #[.int .i64 n, .string s] w fun e w' => e = .returned (.int .i64 (impl_check n s.data.toList)) ∧ Below w.heap.size w w' := by
  have hF : impl_check_c.fn [.int .i64 n, .str s.data.toList] = some ⟨.int .i64 (impl_check n s.data.toList), []⟩ := by
    show (DT.need (impl_check_need _ _) (.leaf (impl_check_mk (impl_check _ _)))).get = _
    rw [hn]
    rfl
  refine (calls_of_fun (x := bodyOf Tryd.f82) Tryd.func82 (by kernel_rfl) (by kernel_rfl) (impl_check_ok w _ #[.int .i64 n, .string s] _ hiv hF (by
    simp only [VSims, VSim]
    exact ⟨trivial, ⟨s, rfl, rfl⟩, trivial⟩))).mono fun e w' ⟨v, he, hR⟩ => ?_
  have hb := below_of_ret hR
  obtain ⟨pr, φ, hv, _⟩ := hR
  simp only [VSim] at hv
  subst hv
  exact ⟨he, hb⟩

set_option maxRecDepth 100000 in
theorem decimal_calls (n : Int) (w : World) (hiv : IvOK w) (hn : impl_Decimal_need n = true) :
    Calls Tryd.prog 84 #[.int .i64 n] w fun e w' => ∃ ba : ByteArray, e = .returned (.string ba) ∧ ba.data.toList = impl_Decimal n ∧ Below w.heap.size w w' := by
  have hF : impl_Decimal_c.fn [.int .i64 n] = some ⟨.str (impl_Decimal n), []⟩ := by
    show (DT.need (impl_Decimal_need _) (.leaf (impl_Decimal_mk (impl_Decimal _)))).get = _
    rw [hn]
    rfl
  refine (calls_of_fun (x := bodyOf Tryd.f84) Tryd.func84 (by kernel_rfl) (by kernel_rfl) (impl_Decimal_ok w _ #[.int .i64 n] _ hiv hF (by
    simp only [VSims, VSim]
    exact ⟨trivial, trivial⟩))).mono fun e w' ⟨v, he, hR⟩ => ?_
  have hb := below_of_ret hR
  obtain ⟨pr, φ, hv, _⟩ := hR
  simp only [VSim] at hv
  obtain ⟨ba, rfl, hd⟩ := hv
  exact ⟨ba, he, hd, hb⟩

/-- Where a journal stands ahead of a round. -/
def MidJ (xs : List ByteArray) (k : Nat) (n : Int) (t : List UInt8) : Prop :=
  0 ≤ n ∧ n < 65003 ∧ t.length ≤ 90000 ∧ jrun (xs.map (·.data.toList)) 0 [] = jrun ((xs.drop k).map (·.data.toList)) n t

theorem midJ_bad {xs : List ByteArray} {k : Nat} {n : Int} {t : List UInt8} (h : MidJ xs k n t) {y : ByteArray} (hy : xs[k]? = some y) (hc : y.data.toList.contains 10 = true) : jrun (xs.map (·.data.toList)) 0 [] = ([], false) := by
  obtain ⟨_, _, _, h⟩ := h
  obtain ⟨hk, rfl⟩ := List.getElem?_eq_some_iff.1 hy
  rw [h, List.drop_eq_getElem_cons hk, List.map_cons]
  unfold jrun
  rw [hc]

theorem midJ_long {xs : List ByteArray} {k : Nat} {n : Int} {t : List UInt8} (h : MidJ xs k n t) {y : ByteArray} (hy : xs[k]? = some y) (hl : 16000 < t.length + y.size) : jrun (xs.map (·.data.toList)) 0 [] = ([], false) := by
  cases hc : y.data.toList.contains 10 with
  | true => exact midJ_bad h hy hc
  | false =>
    obtain ⟨_, _, _, h⟩ := h
    obtain ⟨hk, rfl⟩ := List.getElem?_eq_some_iff.1 hy
    rw [h, List.drop_eq_getElem_cons hk, List.map_cons]
    unfold jrun
    rw [hc, ← Lib.size_eq, decide_eq_true hl]

theorem midJ_end {xs : List ByteArray} {n : Int} {t : List UInt8} (h : MidJ xs xs.length n t) : jrun (xs.map (·.data.toList)) 0 [] = bif decide (16000 < t.length) then ([], false) else (t, true) := by
  obtain ⟨_, _, _, h⟩ := h
  rw [h, List.drop_length]
  show jrun [] n t = _
  unfold jrun
  cases decide (16000 < t.length) <;> rfl

theorem midJ_next {xs : List ByteArray} {k : Nat} {n : Int} {t : List UInt8} (h : MidJ xs k n t) {y : ByteArray} (hy : xs[k]? = some y) (hc : y.data.toList.contains 10 = false) (hl : ¬ 16000 < t.length + y.size) (hys : y.size ≤ 1099511627776) :
    impl_check_need n y.data.toList = true ∧ impl_Decimal_need (impl_check n y.data.toList) = true ∧ (impl_Decimal (impl_check n y.data.toList)).length ≤ 65003 ∧ MidJ xs (k + 1) (impl_check n y.data.toList) (t ++ lineJ (impl_check n y.data.toList) y.data.toList) := by
  obtain ⟨h0, h1, h2, h3⟩ := h
  have hlen : y.data.toList.length = y.size := (Lib.size_eq y).symm
  obtain ⟨c1, _, c3, c4, c5⟩ := check_same y.data.toList (by omega) n h0 h1
  rw [← c3] at c4 c5
  obtain ⟨d1, _, _⟩ := dec_same _ c4 c5
  obtain ⟨_, d3⟩ := decimal_len _ c4 c5
  refine ⟨c1, d1, d3, c4, c5, ?_, ?_⟩
  · rw [List.length_append, lineJ_len]
    omega
  · obtain ⟨hk, rfl⟩ := List.getElem?_eq_some_iff.1 hy
    rw [h3, List.drop_eq_getElem_cons hk, List.map_cons]
    conv => lhs; unfold jrun
    rw [hc, ← Lib.size_eq, decide_eq_false hl]

set_option maxHeartbeats 4000000 in
set_option maxRecDepth 100000 in
theorem journal_w (bk o c : Nat) (xs : List ByteArray) (w : World) (hiv : IvOK w)
    (hcells : ∀ (j : Nat) x, xs[j]? = some x → w.cell? ⟨bk, o + j, none⟩ = some (.string x)) (hbk : bk < w.heap.size)
    (hN : xs.length ≤ 1099511627776) (hL : ∀ x ∈ xs, x.size ≤ 1099511627776) :
    Calls Tryd.prog 41 #[.slice (some ⟨bk, o, none⟩) xs.length c] w fun e w' => ∃ ba : ByteArray, e = .returned (.tuple #[.string ba, .bool (jrun (xs.map (·.data.toList)) 0 []).2]) ∧ ba.data.toList = (jrun (xs.map (·.data.toList)) 0 []).1 ∧ Below w.heap.size w w' := by
  have h0 : Lib.IsBuilderF 113 5 w.heap.size w.heap.size (Lib.byteCells []) (w.alloc (.cells #[.pointer none, .slice none 0 0] 113)) := Lib.IsBuilderF.of (Lib.fresh_isBuilder 113 5 w)
  have b0 : Below w.heap.size w (w.alloc (.cells #[.pointer none, .slice none 0 0] 113)) := (Below.refl _ w).alloc (Nat.le_refl _) _
  have HC := Lib.hid hcells
  have HV := Lib.hid hiv
  have HL := Lib.hid hL
  have H0 := Lib.hid h0
  have B0 := Lib.hid b0
  have HM : Hid (MidJ xs 0 0 []) := ⟨Int.le_refl _, by omega, by simp, by rw [List.drop_zero]⟩
  obtain ⟨J, hJ⟩ : ∃ J, jrun (xs.map (·.data.toList)) 0 [] = J := ⟨_, rfl⟩
  rw [hJ]
  have HJ := Lib.hid hJ
  clear hcells hiv hL h0 b0 hJ
  go_enter Tryd.func41, Tryd.ntmps41
  go_wp2
  go_loopw [5, 12] (fun vl vi wr => ∃ (k : Nat) (n : Int) (t : List UInt8), vl = .int .i64 n ∧ vi = .int .i64 k ∧ k ≤ xs.length ∧ Hid (MidJ xs k n t) ∧ Hid (Lib.IsBuilderF 113 5 w.heap.size w.heap.size (Lib.byteCells t) wr) ∧ Hid (Below w.heap.size w wr))
    (fun _ vi _ => xs.length - (intOf vi).toNat)
  case atStart => exact ⟨0, 0, [], rfl, rfl, Nat.zero_le _, HM, H0, B0⟩
  case round =>
    obtain ⟨k, n, t, rfl, rfl, hk, HM, HB, HW⟩ := hrel
    have htl : t.length ≤ 90000 := HM.out.2.2.1
    have hBw : w.heap.size ≤ wr.heap.size := HW.out.size
    have hbl : (Lib.byteCells t).length = t.length := Lib.byteCells_length t
    by_cases hkl : k < xs.length
    · obtain ⟨y, hy⟩ : ∃ y, xs[k]? = some y := ⟨xs[k], List.getElem?_eq_getElem hkl⟩
      have hys : y.size ≤ 1099511627776 := HL.out y (List.mem_of_getElem? hy)
      have hcy : wr.cell? ⟨bk, o + k, none⟩ = some (.string y) := by
        rw [HW.out.cell (p := ⟨bk, o + k, none⟩) hbk]
        exact HC.out k y hy
      have Hy := Lib.hid hy
      clear hy
      have hCon := contains_calls y wr (HV.out.below HW.out)
      cases hct : y.data.toList.contains 10 with
      | true =>
        rw [hct] at hCon
        obtain rfl : J = ([], false) := HJ.out.symm.trans (midJ_bad HM.out Hy.out hct)
        clear hct
        go_wp2_with (go_at_call 80; refine hCon.mono ?_; rintro e W1 ⟨rfl, hb1⟩)
        go_ret2
        exact ⟨_, rfl, rfl, HW.out.trans (hb1.mono hBw)⟩
      | false =>
        rw [hct] at hCon
        go_wp2_with (go_at_call 80; refine hCon.mono ?_; rintro e W1 ⟨rfl, hb1⟩)
        clear hCon
        have HB1 := Lib.hid (builder_below HB.out hb1)
        have HW1 := Lib.hid (HW.out.trans (hb1.mono hBw))
        clear HB HW hb1 hBw hcy
        have hBw := HW1.out.size
        have hLen := b_len _ _ _ _ HB1.out
        rw [hbl] at hLen
        by_cases hl : 16000 < t.length + y.size
        · obtain rfl : J = ([], false) := HJ.out.symm.trans (midJ_long HM.out Hy.out hl)
          have hl' : (16000 : Int) < (t.length : Int) + (y.size : Int) := by omega
          go_wp2_with (go_at_call 81; refine hLen.mono ?_; rintro e W2 ⟨rfl, rfl⟩)
          go_ret2
          exact ⟨_, rfl, rfl, HW1.out⟩
        · have hl' : ¬ (16000 : Int) < (t.length : Int) + (y.size : Int) := by omega
          obtain ⟨c1, d1, d2, hM2⟩ := midJ_next HM.out Hy.out hct hl hys
          have HM2 := Lib.hid hM2
          have hChk := check_calls n y W1 (HV.out.below HW1.out) c1
          clear hM2 hct c1
          generalize hn' : impl_check n y.data.toList = n' at HM2 hChk d1 d2
          have Hn' := Lib.hid hn'
          clear hn'
          go_wp2_with (first
            | (go_at_call 81; refine hLen.mono ?_; rintro e W2 ⟨rfl, rfl⟩)
            | (go_at_call 82; refine hChk.mono ?_; rintro e W3 ⟨rfl, hb3⟩))
          clear hLen hChk
          have HB3 := Lib.hid (builder_below HB1.out hb3)
          have HW3 := Lib.hid (HW1.out.trans (hb3.mono hBw))
          clear HB1 HW1 hb3 hBw
          have hDec := decimal_calls n' W3 (HV.out.below HW3.out) d1
          refine hDec.mono ?_
          rintro e W4 ⟨ba, rfl, hd, hb4⟩
          have hba : ba.size ≤ 65003 := by rw [Lib.size_eq, hd]; exact d2
          have HB4 := Lib.hid (builder_below HB3.out hb4)
          have HW4 := Lib.hid (HW3.out.trans (hb4.mono HW3.out.size))
          have Hd := Lib.hid hd
          clear HB3 HW3 hb4 hDec d1 d2 hd
          have hBw := HW4.out.size
          have h32 : (⟨#[32]⟩ : ByteArray).size = 1 := rfl
          have h10 : (⟨#[10]⟩ : ByteArray).size = 1 := rfl
          obtain ⟨S, hS⟩ : ∃ S : ByteArray, ba ++ ⟨#[32]⟩ ++ y ++ ⟨#[10]⟩ = S := ⟨_, rfl⟩
          have hSs : S.size = ba.size + 1 + y.size + 1 := by rw [← hS]; simp only [ByteArray.size_append, h32, h10]
          have hWr := b_write w.heap.size w.heap.size (Lib.byteCells t) S W4 HB4.out (by rw [hbl]; omega) hBw
          have HS := Lib.hid hS
          go_wp2_with fail
          refine hWr.mono ?_
          rintro e W5 ⟨rfl, h5, hb5⟩
          have hnext : Lib.byteCells t ++ Lib.strCells S = Lib.byteCells (t ++ lineJ n' y.data.toList) := by
            rw [Lib.byteCells_append, Lib.strCells_eq, ← HS.out]
            congr 1
            unfold lineJ
            rw [← Hd.out]
            simp only [ByteArray.data_append, Array.toList_append]
          rw [hnext] at h5
          have HB5 := Lib.hid h5
          have HW5 := Lib.hid (HW4.out.trans hb5)
          clear h5 hb5 hnext hWr
          go_wp2
          go_roundw
          case measure => simp [intOf]; omega
          case rel => exact ⟨k + 1, n', t ++ lineJ n' y.data.toList, rfl, by go_num, by omega, HM2, HB5, HW5⟩
    · have hke : k = xs.length := by omega
      subst hke
      have hE := midJ_end HM.out
      have hLen := b_len _ _ _ _ HB.out
      rw [hbl] at hLen
      have hStr := b_string _ _ t wr HB.out hBw
      by_cases hl : 16000 < t.length
      · rw [decide_eq_true hl] at hE
        obtain rfl : J = ([], false) := HJ.out.symm.trans hE
        have hl' : (16000 : Int) < (t.length : Int) := by omega
        clear hE
        go_wp2_with (go_at_call 81; refine hLen.mono ?_; rintro e W2 ⟨rfl, rfl⟩)
        go_ret2
        exact ⟨_, rfl, rfl, HW.out⟩
      · rw [decide_eq_false hl] at hE
        obtain rfl : J = (t, true) := HJ.out.symm.trans hE
        have hl' : ¬ (16000 : Int) < (t.length : Int) := by omega
        clear hE
        go_wp2_with (first
          | (go_at_call 81; refine hLen.mono ?_; rintro e W2 ⟨rfl, rfl⟩)
          | (go_at_call 85; refine hStr.mono ?_; rintro e W3 ⟨rfl, hb3⟩))
        go_ret2
        exact ⟨_, rfl, by simp, HW.out.trans hb3⟩

set_option maxHeartbeats 4000000 in
set_option maxRecDepth 100000 in
theorem journal_none (a : Option Addr) (c : Nat) (w : World) :
    Calls Tryd.prog 41 #[.slice a 0 c] w fun e w' => ∃ ba : ByteArray, e = .returned (.tuple #[.string ba, .bool true]) ∧ ba.data.toList = [] ∧ Below w.heap.size w w' := by
  have h0 : Lib.IsBuilderF 113 5 w.heap.size w.heap.size (Lib.byteCells []) (w.alloc (.cells #[.pointer none, .slice none 0 0] 113)) := Lib.IsBuilderF.of (Lib.fresh_isBuilder 113 5 w)
  have b0 : Below w.heap.size w (w.alloc (.cells #[.pointer none, .slice none 0 0] 113)) := (Below.refl _ w).alloc (Nat.le_refl _) _
  have hLen := b_len _ _ _ _ h0
  have hbl : (Lib.byteCells []).length = 0 := rfl
  rw [hbl] at hLen
  have hStr := b_string _ _ [] _ h0 b0.size
  have B0 := Lib.hid b0
  clear h0 b0 hbl
  go_enter Tryd.func41, Tryd.ntmps41
  go_wp2
  go_loopw [12] (fun vi wr => vi = .int .i64 0 ∧ wr = w.alloc (.cells #[.pointer none, .slice none 0 0] 113))
    (fun _ _ => 0)
  case atStart => exact ⟨rfl, rfl⟩
  case round =>
    obtain ⟨rfl, rfl⟩ := hrel
    go_wp2_with (first
      | (go_at_call 81; refine hLen.mono ?_; rintro e W2 ⟨rfl, rfl⟩)
      | (go_at_call 85; refine hStr.mono ?_; rintro e W3 ⟨rfl, hb3⟩))
    go_ret2
    exact ⟨_, rfl, rfl, B0.out.trans hb3⟩

/-! ## The engine's contract -/

theorem strs_of : ∀ {xs : List (UC.str).T} {us : List Value}, All2 SSim (flat .str xs) us → ∃ bs : List ByteArray, us = bs.map Value.string ∧ bs.map (fun b => b.data.toList) = xs
  | [], [], _ => ⟨[], rfl, rfl⟩
  | [], _ :: _, h => by simp [flat, All2] at h
  | x :: xs, [], h => by simp [flat, UC.enc, All2] at h
  | x :: xs, u :: us, h => by
    simp only [flat, UC.enc, List.cons_append, List.nil_append, All2] at h
    obtain ⟨bs, h1, h2⟩ := strs_of h.2
    have h3 := h.1
    simp only [SSim] at h3
    obtain ⟨ba, rfl, hb⟩ := h3
    exact ⟨ba :: bs, by rw [h1]; rfl, by rw [List.map_cons, hb, h2]; rfl⟩

noncomputable def impl_JournalOf_c : Con := fun args => match args with
  | [.vslc _ .str xs] => some (.need (decide (List.length xs ≤ 1099511627776) && List.all xs shortL) (.leaf ⟨.tup [.str (jrun xs 0 []).1, .bool (jrun xs 0 []).2], []⟩))
  | _ => none

theorem ret_text {w w' : World} {vs : Array Value} (hiv : IvOK w) (hb : Below w.heap.size w w') {b : ByteArray} {x : List UInt8} {c : Bool} (hx : b.data.toList = x) : RetSim w w' vs ⟨.tup [.str x, .bool c], []⟩ (.tuple #[.string b, .bool c]) := by
  have hr : RetSim w w' vs ⟨.bool c, []⟩ (.bool c) := ret_below hiv hb rfl (by simp only [VSim])
  obtain ⟨pr, φ, _, hh⟩ := hr
  refine ⟨pr, φ, ?_, ?_⟩
  · simp only [VSim]
    exact ⟨_, rfl, by simp only [VSims, VSim, and_true]; exact ⟨b, rfl, hx⟩⟩
  · exact ⟨fun id b h => (by cases h), fun id b n h => (by cases h), fun i j bi bj n h => (by cases h), hh.fr, hh.os, hh.tape, hh.output, hh.sz, hh.prlt, hh.iv⟩

set_option maxRecDepth 100000 in
theorem impl_JournalOf_ok : FunOK Tryd.prog 41 impl_JournalOf_c.fn := by
  intro w args vs r hiv hF hv
  unfold Con.fn impl_JournalOf_c at hF
  split at hF
  · rename_i t ht
    split at ht
    · rename_i tag xs
      cases ht
      cases hc : (decide (List.length xs ≤ 1099511627776) && List.all xs shortL) with
      | false => rw [hc] at hF; cases hF
      | true =>
        rw [hc] at hF
        simp only [DT.get, Option.some.injEq] at hF
        subst hF
        rw [Bool.and_eq_true, decide_eq_true_eq] at hc
        have hc2 : ∀ l : List UInt8, l ∈ (show List (List UInt8) from xs) → shortL l = true := List.all_eq_true.1 hc.2
        obtain ⟨v, rfl, hu⟩ := one_arg hv
        simp only [VSim] at hu
        obtain ⟨_, a, m, rfl, hm, hw⟩ := hu
        by_cases hx : xs = []
        · subst hx
          refine callsTo_of Tryd.func41 (x := bodyOf Tryd.f41) (by kernel_rfl) (by kernel_rfl) (Calls.mono (journal_none a m w) fun e w' he => ?_)
          obtain ⟨ba, rfl, hd, hB⟩ := he
          exact ret_text hiv hB hd
        · obtain ⟨b, off, rfl, hb, us, hcs, hS⟩ := hw hx
          obtain ⟨bs, rfl, hxs⟩ := strs_of hS
          have hlen : List.length xs = bs.length := by rw [← hxs]; exact List.length_map _
          have h := journal_w b off m bs w hiv (fun j x hj => hcs j _ (by rw [List.getElem?_map, hj]; rfl)) hb (by rw [← hlen]; exact hc.1) (fun x hx => by
            have := hc2 x.data.toList (by show x.data.toList ∈ (xs : List (List UInt8)); rw [← hxs]; exact List.mem_map_of_mem hx)
            unfold shortL at this
            rw [Lib.size_eq]
            exact of_decide_eq_true this)
          rw [hxs, ← hlen] at h
          refine callsTo_of Tryd.func41 (x := bodyOf Tryd.f41) (by kernel_rfl) (by kernel_rfl) (Calls.mono h fun e w' he => ?_)
          obtain ⟨ba, rfl, hd, hB⟩ := he
          exact ret_text hiv hB hd
    · cases ht
  · cases hF

end Go.Proofs.YtcipkfndnkmjlaaDoor
