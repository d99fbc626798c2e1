/- The engine, part Y: a law's arguments, opened. -/
import Derived.Test.YtilfdpllleninaaEngR
import Derived.Deep.Slices
namespace Go.Proofs.Ytilfdpllleninaa
set_option linter.unusedVariables false
set_option linter.unusedSimpArgs false
open Go.ChangeShapes Go.WideShapes Go.RowKit

/-- The kind of a cell. -/
inductive SK where
  | int (k : IntKind) | flt (k : FloatKind) | bool | str

def SK.ok : SK → Value → Prop
  | .int k, v => ∃ n, v = .int k n ∧ (Lit.int k n).wf = true
  | .flt k, v => ∃ b, v = .float k b ∧ (Lit.float k b).wf = true
  | .bool, v => ∃ b, v = .bool b
  | .str, v => ∃ s : ByteArray, v = .string s ∧ s.size ≤ maxLen

def flatFs (P : Program) (K : TypeId → Option (List SK)) : List Field → Nat → Option (List SK)
  | [], _ => some []
  | f :: fs, off => match K f.type with
    | some ks => bif f.offset == off && P.cellsOf f.type == ks.length then (match flatFs P K fs (off + ks.length) with
      | some r => some (ks ++ r)
      | none => none) else none
    | none => none

/-- The kinds of the cells of a type that has no pointers. -/
def flatK (P : Program) : Nat → TypeId → Option (List SK)
  | 0, _ => none
  | n + 1, t => match P.underlying t with
    | some .bool => some [.bool]
    | some (.int k) => some [.int k]
    | some (.float k) => some [.flt k]
    | some .string => some [.str]
    | some (.struct fs) => match flatFs P (flatK P n) fs.toList 0 with
      | some ks => bif P.cellsOf t == ks.length then some ks else none
      | none => none
    | _ => none

section
variable {H : Type} {enc : TypeId × Value → H} {P : Program} {w : World} {base : Nat} {spare : Nat → Bool} {held : Bool}

theorem trod_float {t : TypeId} {k : FloatKind} {fuel : Nat} {cs : List Value} {x : DataW H × List MemPlace} (ht : P.underlying t = some (.float k)) (h : DataW.trod enc P w base spare held fuel t cs = some x) : ∃ b, cs = [.float k b] ∧ (Lit.float k b).wf = true := by
  cases fuel with
  | zero => simp [DataW.trod] at h
  | succ n =>
    unfold DataW.trod at h
    rw [ht] at h
    split at h <;> simp_all

theorem flatFs_all {K : TypeId → Option (List SK)} {cs : List Value} : ∀ (fs : List Field) (off : Nat) (ks : List SK), flatFs P K fs off = some ks →
    (∀ f ∈ fs, ∀ kf, K f.type = some kf → All2 SK.ok kf ((cs.drop f.offset).take (P.cellsOf f.type))) → cs.length = off + ks.length → All2 SK.ok ks (cs.drop off)
  | [], off, ks, h, _, hl => by
    simp only [flatFs, Option.some.injEq] at h
    subst h
    simp only [List.length_nil, Nat.add_zero] at hl
    rw [List.drop_eq_nil_of_le (by omega)]
    trivial
  | f :: fs, off, ks, h, hf, hl => by
    simp only [flatFs] at h
    split at h
    · rename_i kf hk
      rw [cond_eq_ite] at h
      split at h
      · rename_i hc
        simp only [Bool.and_eq_true] at hc
        have h1 := eq_of_beq hc.1
        have h2 := eq_of_beq hc.2
        split at h
        · rename_i r hr
          simp only [Option.some.injEq] at h
          subst h
          have a := hf f (by simp) kf hk
          rw [h1, h2] at a
          have b := flatFs_all fs (off + kf.length) r hr (fun g hg => hf g (by simp [hg])) (by rw [hl, List.length_append]; omega)
          have e : cs.drop off = (cs.drop off).take kf.length ++ cs.drop (off + kf.length) := by
            rw [← List.drop_drop, List.take_append_drop]
          rw [e]
          exact a.append b
        · cases h
      · cases h
    · cases h

theorem trod_flat : ∀ (n : Nat) (t : TypeId) (ks : List SK), flatK P n t = some ks → ∀ (fuel : Nat) (cs : List Value) (x : DataW H × List MemPlace), DataW.trod enc P w base spare held fuel t cs = some x → All2 SK.ok ks cs
  | 0, t, ks, h, _, _, _, _ => by simp [flatK] at h
  | n + 1, t, ks, h, fuel, cs, x, hx => by
    simp only [flatK] at h
    split at h
    · rename_i ht
      cases h
      obtain ⟨b, rfl, _⟩ := DataW.trod_bool ht hx
      exact ⟨⟨b, rfl⟩, trivial⟩
    · rename_i k ht
      cases h
      obtain ⟨m, rfl, _, hw⟩ := DataW.trod_int ht hx
      exact ⟨⟨m, rfl, hw⟩, trivial⟩
    · rename_i k ht
      cases h
      obtain ⟨b, rfl, hw⟩ := trod_float ht hx
      exact ⟨⟨b, rfl, hw⟩, trivial⟩
    · rename_i ht
      cases h
      obtain ⟨s, rfl, _, hs⟩ := DataW.trod_string ht hx
      exact ⟨⟨s, rfl, hs⟩, trivial⟩
    · rename_i fs ht
      split at h
      · rename_i kf hk
        rw [cond_eq_ite] at h
        split at h
        · rename_i hc
          have hc := eq_of_beq hc
          cases h
          obtain ⟨xs, m, rfl, _, hl, hxl, hall⟩ := DataW.trod_struct ht hx
          have := flatFs_all (P := P) (cs := cs) fs.toList 0 ks hk (fun f hf kf hkf => by
            obtain ⟨i, hi, rfl⟩ := List.mem_iff_getElem.1 hf
            have hi' : i < fs.size := by simpa using hi
            have h1 := hall i fs[i] (by simp [hi'])
            have hlt : i < xs.length := by omega
            rw [List.getElem?_eq_getElem hlt] at h1
            have e : fs.toList[i] = fs[i] := by simp
            rw [e] at hkf ⊢
            exact trod_flat n _ kf hkf m _ _ h1) (by omega)
          simpa using this
        · cases h
      · cases h
    · cases h

/-- The kinds of the cells of an element. -/
def UC.kinds : UC → Option (List SK)
  | .int k => some [.int k]
  | .flt k => some [.flt k]
  | .cplx _ => none
  | .bool => some [.bool]
  | .str => some [.str]
  | .vec | .mark => some [.flt .f32, .flt .f32, .flt .f32]
  | .look => none
  | .body => some [.flt .f32, .flt .f32, .flt .f32, .flt .f32, .flt .f32, .flt .f32, .flt .f32]
  | .entry => some [.str, .flt .f32, .flt .f32, .flt .f32, .flt .f32, .flt .f32, .flt .f32, .flt .f32]

/-- Thirty-two bits. -/
def F32 (x : Nat) : Prop := x < 4294967296
def Vec.fits (v : Vec) : Prop := F32 v.X ∧ F32 v.Y ∧ F32 v.Z
def Orbit.fits (o : Orbit) : Prop := F32 o.Long ∧ F32 o.Round ∧ F32 o.Tilt ∧ F32 o.Node ∧ F32 o.Peri ∧ F32 o.Phase
def Body.fits (b : Body) : Prop := b.At.fits ∧ b.Speed.fits ∧ F32 b.Mass

theorem canon_wf {k : FloatKind} {b : Nat} (h : (Lit.float k b).wf = true) : (Lit.float k (canon k b)).wf = true := by
  unfold canon
  cases isNaN k b with
  | false => exact h
  | true => cases k <;> rfl

theorem canon_f32 {b : Nat} (h : (Lit.float .f32 b).wf = true) : F32 (canon .f32 b) := by
  have := canon_wf h
  simpa [Lit.wf, F32] using this

/-- What an element of an argument is bound by. -/
def UC.fit : (c : UC) → c.T → Prop
  | .int k, n => (Lit.int k n).wf = true
  | .str, s => List.length (α := UInt8) s ≤ maxLen
  | .flt k, x => (Lit.float k x).wf = true
  | .vec, v => let v : Vec := v; v.fits
  | .mark, v => let v : Mark := v; F32 v.North ∧ F32 v.East ∧ F32 v.High
  | .body, b => let b : Body := b; b.fits
  | .entry, e => let e : Entry := e; e.Name.length ≤ maxLen ∧ F32 e.Mass ∧ e.Orb.fits
  | _, _ => True

theorem all_one {k : SK} {cs : List Value} (h : All2 SK.ok [k] cs) : ∃ v, cs = [v] ∧ k.ok v := by
  cases cs with
  | nil => exact h.elim
  | cons v r => cases r with
    | nil => exact ⟨v, rfl, h.1⟩
    | cons u r => exact h.2.elim

theorem all_cons {k : SK} {ks : List SK} {cs : List Value} (h : All2 SK.ok (k :: ks) cs) : ∃ v r, cs = v :: r ∧ k.ok v ∧ All2 SK.ok ks r := by
  cases cs with
  | nil => exact h.elim
  | cons v r => exact ⟨v, r, rfl, h.1, h.2⟩
theorem all_nil {cs : List Value} (h : All2 SK.ok [] cs) : cs = [] := by
  cases cs with
  | nil => rfl
  | cons v r => exact h.elim

theorem kinds_dec {c : UC} {ks : List SK} {cs : List Value} (hk : c.kinds = some ks) (h : All2 SK.ok ks cs) : ∃ x : c.T, All2 SSim (c.enc x) cs ∧ c.fit x := by
  cases c with
  | int k =>
    cases hk
    obtain ⟨v, rfl, n, rfl, hw⟩ := all_one h
    exact ⟨n, ⟨rfl, trivial⟩, hw⟩
  | flt k =>
    cases hk
    obtain ⟨v, rfl, b, rfl, hw⟩ := all_one h
    exact ⟨canon k b, ⟨⟨b, rfl, rfl⟩, trivial⟩, canon_wf hw⟩
  | cplx k => cases hk
  | look => cases hk
  | bool =>
    cases hk
    obtain ⟨v, rfl, b, rfl⟩ := all_one h
    exact ⟨b, ⟨rfl, trivial⟩, trivial⟩
  | str =>
    cases hk
    obtain ⟨v, rfl, s, rfl, hs⟩ := all_one h
    exact ⟨s.data.toList, ⟨⟨s, rfl, rfl⟩, trivial⟩, by show s.data.toList.length ≤ maxLen; simpa using hs⟩
  | vec =>
    cases hk
    obtain ⟨_, _, rfl, ⟨a, rfl, wa⟩, h1⟩ := all_cons h
    obtain ⟨_, _, rfl, ⟨b, rfl, wb⟩, h2⟩ := all_cons h1
    obtain ⟨_, _, rfl, ⟨d, rfl, wd⟩, h3⟩ := all_cons h2
    obtain rfl := all_nil h3
    exact ⟨(⟨canon .f32 a, canon .f32 b, canon .f32 d⟩ : Vec), ⟨⟨_, rfl, rfl⟩, ⟨_, rfl, rfl⟩, ⟨_, rfl, rfl⟩, trivial⟩, canon_f32 wa, canon_f32 wb, canon_f32 wd⟩
  | mark =>
    cases hk
    obtain ⟨_, _, rfl, ⟨a, rfl, wa⟩, h1⟩ := all_cons h
    obtain ⟨_, _, rfl, ⟨b, rfl, wb⟩, h2⟩ := all_cons h1
    obtain ⟨_, _, rfl, ⟨d, rfl, wd⟩, h3⟩ := all_cons h2
    obtain rfl := all_nil h3
    exact ⟨(⟨canon .f32 a, canon .f32 b, canon .f32 d⟩ : Mark), ⟨⟨_, rfl, rfl⟩, ⟨_, rfl, rfl⟩, ⟨_, rfl, rfl⟩, trivial⟩, canon_f32 wa, canon_f32 wb, canon_f32 wd⟩
  | body =>
    cases hk
    obtain ⟨_, _, rfl, ⟨a, rfl, wa⟩, h1⟩ := all_cons h
    obtain ⟨_, _, rfl, ⟨b, rfl, wb⟩, h2⟩ := all_cons h1
    obtain ⟨_, _, rfl, ⟨d, rfl, wd⟩, h3⟩ := all_cons h2
    obtain ⟨_, _, rfl, ⟨e, rfl, we⟩, h4⟩ := all_cons h3
    obtain ⟨_, _, rfl, ⟨f, rfl, wf⟩, h5⟩ := all_cons h4
    obtain ⟨_, _, rfl, ⟨g, rfl, wg⟩, h6⟩ := all_cons h5
    obtain ⟨_, _, rfl, ⟨i, rfl, wi⟩, h7⟩ := all_cons h6
    obtain rfl := all_nil h7
    exact ⟨(⟨⟨canon .f32 a, canon .f32 b, canon .f32 d⟩, ⟨canon .f32 e, canon .f32 f, canon .f32 g⟩, canon .f32 i⟩ : Body), ⟨⟨_, rfl, rfl⟩, ⟨_, rfl, rfl⟩, ⟨_, rfl, rfl⟩, ⟨_, rfl, rfl⟩, ⟨_, rfl, rfl⟩, ⟨_, rfl, rfl⟩, ⟨_, rfl, rfl⟩, trivial⟩, ⟨canon_f32 wa, canon_f32 wb, canon_f32 wd⟩, ⟨canon_f32 we, canon_f32 wf, canon_f32 wg⟩, canon_f32 wi⟩
  | entry =>
    cases hk
    obtain ⟨_, _, rfl, ⟨s, rfl, hs⟩, h1⟩ := all_cons h
    obtain ⟨_, _, rfl, ⟨a, rfl, wa⟩, h2⟩ := all_cons h1
    obtain ⟨_, _, rfl, ⟨b, rfl, wb⟩, h3⟩ := all_cons h2
    obtain ⟨_, _, rfl, ⟨d, rfl, wd⟩, h4⟩ := all_cons h3
    obtain ⟨_, _, rfl, ⟨e, rfl, we⟩, h5⟩ := all_cons h4
    obtain ⟨_, _, rfl, ⟨f, rfl, wf⟩, h6⟩ := all_cons h5
    obtain ⟨_, _, rfl, ⟨g, rfl, wg⟩, h7⟩ := all_cons h6
    obtain ⟨_, _, rfl, ⟨i, rfl, wi⟩, h8⟩ := all_cons h7
    obtain rfl := all_nil h8
    exact ⟨(⟨s.data.toList, canon .f32 a, ⟨canon .f32 b, canon .f32 d, canon .f32 e, canon .f32 f, canon .f32 g, canon .f32 i⟩⟩ : Entry), ⟨⟨_, rfl, rfl⟩, ⟨_, rfl, rfl⟩, ⟨_, rfl, rfl⟩, ⟨_, rfl, rfl⟩, ⟨_, rfl, rfl⟩, ⟨_, rfl, rfl⟩, ⟨_, rfl, rfl⟩, ⟨_, rfl, rfl⟩, trivial⟩, (by show s.data.toList.length ≤ maxLen; simpa using hs), canon_f32 wa, canon_f32 wb, canon_f32 wd, canon_f32 we, canon_f32 wf, canon_f32 wg, canon_f32 wi⟩

theorem cell_block {a : Addr} {v : Value} (h : w.cell? a = some v) : a.spot = none ∧ a.block < w.heap.size := by
  unfold World.cell? at h
  split at h
  · rename_i c _ _ hb
    split at h
    · cases h
    · rename_i hs
      refine ⟨by simpa using hs, ?_⟩
      exact (Array.getElem?_eq_some_iff.1 hb).1
  · cases h

theorem addr_add {a : Addr} (n : Nat) (hs : a.spot = none) : a.add n = ⟨a.block, a.off + n, none⟩ := by
  unfold Addr.add
  obtain ⟨b, o, s⟩ := a
  simp only at hs
  subst hs
  split
  · rename_i h; subst h; rfl
  · rfl

/-- A slice of elements that have no pointers. -/
theorem open_row {c : UC} {ks : List SK} (hc : c.kinds = some ks) {t e : TypeId} {n : Nat} (ht : P.underlying t = some (.slice e)) (hk : flatK P n e = some ks) (hsz : P.cellsOf e = c.size) {v : Value} {d : DataW H} {p : List MemPlace}
    (hv : ∃ a l m, v = .slice a l m) (h : DataW.Trod enc P w 0 spare held t v d p) {ar : Array Value} {i : Nat} (hi : ar[i]? = some v) :
    ∃ xs : List c.T, xs.length ≤ maxLen ∧ (∀ x ∈ xs, c.fit x) ∧ VSim (argCx w ar) (.vslc (i + 1) c xs) v := by
  obtain ⟨a, l, m, rfl⟩ := hv
  obtain ⟨fuel, hf⟩ := h
  have htag : ∀ j, i + 1 = j + 1 → (argCx w ar).ar[j]? = some (.slice a l m) := fun j hj => by
    have : j = i := by omega
    subst this
    exact hi
  rcases Go.Deep.open_slice ht hf with ⟨hcs, _⟩ | ⟨a', len, cap, m', n', D, Pl, hcs, _, hle, hmax, hm', _, hel⟩
  · simp only [Value.cells, List.toList_toArray, List.cons.injEq, and_true, Value.slice.injEq] at hcs
    obtain ⟨rfl, rfl, rfl⟩ := hcs
    refine ⟨[], Nat.zero_le _, by simp, ?_⟩
    simp only [VSim]
    exact ⟨htag, none, 0, by simp, Nat.le_refl _, fun hne => absurd rfl hne⟩
  · simp only [Value.cells, List.toList_toArray, List.cons.injEq, and_true, Value.slice.injEq] at hcs
    obtain ⟨rfl, rfl, rfl⟩ := hcs
    have hlm : l ≤ m' := by rw [hm']; split <;> omega
    -- element by element
    have key : ∀ j, j ≤ l → ∃ (xs : List c.T) (vs : List Value), xs.length = j ∧ vs.length = j * c.size ∧ (∀ x ∈ xs, c.fit x) ∧ All2 SSim (flat c xs) vs ∧ ∀ q u, vs[q]? = some u → w.cell? (a'.add q) = some u := by
      intro j
      induction j with
      | zero => intro _; exact ⟨[], [], rfl, by simp, by simp, trivial, fun q u h => by simp at h⟩
      | succ j ih =>
        intro hj
        obtain ⟨xs, vs, h1, h2, h3, h4, h5⟩ := ih (by omega)
        obtain ⟨cs', g1, g2⟩ := hel j (by omega)
        obtain ⟨_, g3, g4⟩ := World.cells?_some g1
        obtain ⟨x, g5, g6⟩ := kinds_dec hc (trod_flat n e ks hk n' cs' _ g2)
        refine ⟨xs ++ [x], vs ++ cs', by simp [h1], by rw [List.length_append, h2, g3, hsz, Nat.succ_mul], ?_, ?_, fun q u hq => ?_⟩
        · intro y hy
          rcases List.mem_append.1 hy with hy | hy
          · exact h3 y hy
          · rw [List.mem_singleton.1 hy]; exact g6
        · rw [flat_append]
          refine h4.append ?_
          show All2 SSim (c.enc x ++ []) cs'
          rw [List.append_nil]
          exact g5
        · rcases Nat.lt_or_ge q vs.length with hlt | hge
          · rw [List.getElem?_append_left hlt] at hq
            exact h5 q u hq
          · rw [List.getElem?_append_right hge] at hq
            have hr : q - vs.length < P.cellsOf e := by
              have := (List.getElem?_eq_some_iff.1 hq).1
              omega
            have := g4 (q - vs.length) hr
            rw [hq, Go.Deep.add_add, hsz, ← h2] at this
            rw [show q = vs.length + (q - vs.length) from by omega]
            exact this
    obtain ⟨xs, vs, h1, h2, h3, h4, h5⟩ := key l (Nat.le_refl _)
    refine ⟨xs, by rw [h1]; omega, h3, ?_⟩
    simp only [VSim]
    refine ⟨htag, some a', m, by rw [h1], by rw [h1]; exact hle, fun hne => ?_⟩
    have hpos : 0 < vs.length := by
      rw [h2, ← h1]
      exact Nat.mul_pos (List.length_pos_iff.2 hne) (UC.size_pos c)
    have hcell := h5 0 vs[0] (List.getElem?_eq_getElem hpos)
    have ha0 : a'.add 0 = a' := by unfold Addr.add; simp
    rw [ha0] at hcell
    obtain ⟨hs, hb⟩ := cell_block hcell
    refine ⟨a'.block, a'.off, ?_, hb, vs, fun q u hq => ?_, h4⟩
    · obtain ⟨x, y, z⟩ := a'
      simp only at hs
      subst hs
      rfl
    · have := h5 q u hq
      rw [addr_add q hs] at this
      exact this

/-- A struct that has no pointers. -/
theorem open_struct {r : Reach} {b0 : Nat} {t : TypeId} {fs : Array Field} {n : Nat} {ks : List SK} (ht : P.underlying t = some (.struct fs)) (hk : flatK P n t = some ks) {v : Value} {d : DataW H} {p : List MemPlace}
    (hval : Value.okWide P w r b0 t v) (h : DataW.Trod enc P w base spare held t v d p) : ∃ cs : Array Value, v = .agg cs ∧ All2 SK.ok ks cs.toList := by
  unfold Value.okWide at hval
  rw [ht] at hval
  obtain ⟨cs, rfl, _, _⟩ := hval
  obtain ⟨fuel, hf⟩ := h
  exact ⟨cs, rfl, trod_flat n t ks hk fuel _ _ hf⟩

theorem flts3 {cs : List Value} (h : All2 SK.ok [.flt .f32, .flt .f32, .flt .f32] cs) : ∃ b0 b1 b2, cs = [.float .f32 b0, .float .f32 b1, .float .f32 b2] ∧ F32 (canon .f32 b0) ∧ F32 (canon .f32 b1) ∧ F32 (canon .f32 b2) := by
  obtain ⟨_, _, rfl, ⟨b0, rfl, w0⟩, h1⟩ := all_cons h
  obtain ⟨_, _, rfl, ⟨b1, rfl, w1⟩, h2⟩ := all_cons h1
  obtain ⟨_, _, rfl, ⟨b2, rfl, w2⟩, h3⟩ := all_cons h2
  obtain rfl := all_nil h3
  exact ⟨b0, b1, b2, rfl, canon_f32 w0, canon_f32 w1, canon_f32 w2⟩
theorem flts4 {cs : List Value} (h : All2 SK.ok [.flt .f32, .flt .f32, .flt .f32, .flt .f32] cs) : ∃ b0 b1 b2 b3, cs = [.float .f32 b0, .float .f32 b1, .float .f32 b2, .float .f32 b3] ∧ F32 (canon .f32 b0) ∧ F32 (canon .f32 b1) ∧ F32 (canon .f32 b2) ∧ F32 (canon .f32 b3) := by
  obtain ⟨_, _, rfl, ⟨b0, rfl, w0⟩, h1⟩ := all_cons h
  obtain ⟨_, _, rfl, ⟨b1, rfl, w1⟩, h2⟩ := all_cons h1
  obtain ⟨_, _, rfl, ⟨b2, rfl, w2⟩, h3⟩ := all_cons h2
  obtain ⟨_, _, rfl, ⟨b3, rfl, w3⟩, h4⟩ := all_cons h3
  obtain rfl := all_nil h4
  exact ⟨b0, b1, b2, b3, rfl, canon_f32 w0, canon_f32 w1, canon_f32 w2, canon_f32 w3⟩
theorem flts6 {cs : List Value} (h : All2 SK.ok [.flt .f32, .flt .f32, .flt .f32, .flt .f32, .flt .f32, .flt .f32] cs) : ∃ b0 b1 b2 b3 b4 b5, cs = [.float .f32 b0, .float .f32 b1, .float .f32 b2, .float .f32 b3, .float .f32 b4, .float .f32 b5] ∧ F32 (canon .f32 b0) ∧ F32 (canon .f32 b1) ∧ F32 (canon .f32 b2) ∧ F32 (canon .f32 b3) ∧ F32 (canon .f32 b4) ∧ F32 (canon .f32 b5) := by
  obtain ⟨_, _, rfl, ⟨b0, rfl, w0⟩, h1⟩ := all_cons h
  obtain ⟨_, _, rfl, ⟨b1, rfl, w1⟩, h2⟩ := all_cons h1
  obtain ⟨_, _, rfl, ⟨b2, rfl, w2⟩, h3⟩ := all_cons h2
  obtain ⟨_, _, rfl, ⟨b3, rfl, w3⟩, h4⟩ := all_cons h3
  obtain ⟨_, _, rfl, ⟨b4, rfl, w4⟩, h5⟩ := all_cons h4
  obtain ⟨_, _, rfl, ⟨b5, rfl, w5⟩, h6⟩ := all_cons h5
  obtain rfl := all_nil h6
  exact ⟨b0, b1, b2, b3, b4, b5, rfl, canon_f32 w0, canon_f32 w1, canon_f32 w2, canon_f32 w3, canon_f32 w4, canon_f32 w5⟩
theorem trods1 {t0 : TypeId} {args : Array Value} {ds : List (DataW H)} {ps : List MemPlace} (h : DataW.TrodAll enc P w base spare held [t0] args.toList ds ps) :
    ∃ v0 d0 p0, args = #[v0] ∧ ds = [d0] ∧ ps = p0 ∧ DataW.Trod enc P w base spare held t0 v0 d0 p0 := by
  obtain ⟨v0, r0, d0, e0, p0, q0, ha, rfl, rfl, g0, k0⟩ := trodAll_cons h
  obtain ⟨rfl, rfl, rfl⟩ := trodAll_nil k0
  exact ⟨v0, d0, p0, by cases args; simp_all, rfl, by simp, g0⟩
theorem trods2 {t0 t1 : TypeId} {args : Array Value} {ds : List (DataW H)} {ps : List MemPlace} (h : DataW.TrodAll enc P w base spare held [t0, t1] args.toList ds ps) :
    ∃ v0 v1 d0 d1 p0 p1, args = #[v0, v1] ∧ ds = [d0, d1] ∧ ps = p0 ++ (p1) ∧ DataW.Trod enc P w base spare held t0 v0 d0 p0 ∧ DataW.Trod enc P w base spare held t1 v1 d1 p1 := by
  obtain ⟨v0, r0, d0, e0, p0, q0, ha, rfl, rfl, g0, k0⟩ := trodAll_cons h
  obtain ⟨v1, r1, d1, e1, p1, q1, rfl, rfl, rfl, g1, k1⟩ := trodAll_cons k0
  obtain ⟨rfl, rfl, rfl⟩ := trodAll_nil k1
  exact ⟨v0, v1, d0, d1, p0, p1, by cases args; simp_all, rfl, by simp, g0, g1⟩
theorem trods3 {t0 t1 t2 : TypeId} {args : Array Value} {ds : List (DataW H)} {ps : List MemPlace} (h : DataW.TrodAll enc P w base spare held [t0, t1, t2] args.toList ds ps) :
    ∃ v0 v1 v2 d0 d1 d2 p0 p1 p2, args = #[v0, v1, v2] ∧ ds = [d0, d1, d2] ∧ ps = p0 ++ (p1 ++ (p2)) ∧ DataW.Trod enc P w base spare held t0 v0 d0 p0 ∧ DataW.Trod enc P w base spare held t1 v1 d1 p1 ∧ DataW.Trod enc P w base spare held t2 v2 d2 p2 := by
  obtain ⟨v0, r0, d0, e0, p0, q0, ha, rfl, rfl, g0, k0⟩ := trodAll_cons h
  obtain ⟨v1, r1, d1, e1, p1, q1, rfl, rfl, rfl, g1, k1⟩ := trodAll_cons k0
  obtain ⟨v2, r2, d2, e2, p2, q2, rfl, rfl, rfl, g2, k2⟩ := trodAll_cons k1
  obtain ⟨rfl, rfl, rfl⟩ := trodAll_nil k2
  exact ⟨v0, v1, v2, d0, d1, d2, p0, p1, p2, by cases args; simp_all, rfl, by simp, g0, g1, g2⟩
theorem trods4 {t0 t1 t2 t3 : TypeId} {args : Array Value} {ds : List (DataW H)} {ps : List MemPlace} (h : DataW.TrodAll enc P w base spare held [t0, t1, t2, t3] args.toList ds ps) :
    ∃ v0 v1 v2 v3 d0 d1 d2 d3 p0 p1 p2 p3, args = #[v0, v1, v2, v3] ∧ ds = [d0, d1, d2, d3] ∧ ps = p0 ++ (p1 ++ (p2 ++ (p3))) ∧ DataW.Trod enc P w base spare held t0 v0 d0 p0 ∧ DataW.Trod enc P w base spare held t1 v1 d1 p1 ∧ DataW.Trod enc P w base spare held t2 v2 d2 p2 ∧ DataW.Trod enc P w base spare held t3 v3 d3 p3 := by
  obtain ⟨v0, r0, d0, e0, p0, q0, ha, rfl, rfl, g0, k0⟩ := trodAll_cons h
  obtain ⟨v1, r1, d1, e1, p1, q1, rfl, rfl, rfl, g1, k1⟩ := trodAll_cons k0
  obtain ⟨v2, r2, d2, e2, p2, q2, rfl, rfl, rfl, g2, k2⟩ := trodAll_cons k1
  obtain ⟨v3, r3, d3, e3, p3, q3, rfl, rfl, rfl, g3, k3⟩ := trodAll_cons k2
  obtain ⟨rfl, rfl, rfl⟩ := trodAll_nil k3
  exact ⟨v0, v1, v2, v3, d0, d1, d2, d3, p0, p1, p2, p3, by cases args; simp_all, rfl, by simp, g0, g1, g2, g3⟩
theorem trods6 {t0 t1 t2 t3 t4 t5 : TypeId} {args : Array Value} {ds : List (DataW H)} {ps : List MemPlace} (h : DataW.TrodAll enc P w base spare held [t0, t1, t2, t3, t4, t5] args.toList ds ps) :
    ∃ v0 v1 v2 v3 v4 v5 d0 d1 d2 d3 d4 d5 p0 p1 p2 p3 p4 p5, args = #[v0, v1, v2, v3, v4, v5] ∧ ds = [d0, d1, d2, d3, d4, d5] ∧ ps = p0 ++ (p1 ++ (p2 ++ (p3 ++ (p4 ++ (p5))))) ∧ DataW.Trod enc P w base spare held t0 v0 d0 p0 ∧ DataW.Trod enc P w base spare held t1 v1 d1 p1 ∧ DataW.Trod enc P w base spare held t2 v2 d2 p2 ∧ DataW.Trod enc P w base spare held t3 v3 d3 p3 ∧ DataW.Trod enc P w base spare held t4 v4 d4 p4 ∧ DataW.Trod enc P w base spare held t5 v5 d5 p5 := by
  obtain ⟨v0, r0, d0, e0, p0, q0, ha, rfl, rfl, g0, k0⟩ := trodAll_cons h
  obtain ⟨v1, r1, d1, e1, p1, q1, rfl, rfl, rfl, g1, k1⟩ := trodAll_cons k0
  obtain ⟨v2, r2, d2, e2, p2, q2, rfl, rfl, rfl, g2, k2⟩ := trodAll_cons k1
  obtain ⟨v3, r3, d3, e3, p3, q3, rfl, rfl, rfl, g3, k3⟩ := trodAll_cons k2
  obtain ⟨v4, r4, d4, e4, p4, q4, rfl, rfl, rfl, g4, k4⟩ := trodAll_cons k3
  obtain ⟨v5, r5, d5, e5, p5, q5, rfl, rfl, rfl, g5, k5⟩ := trodAll_cons k4
  obtain ⟨rfl, rfl, rfl⟩ := trodAll_nil k5
  exact ⟨v0, v1, v2, v3, v4, v5, d0, d1, d2, d3, d4, d5, p0, p1, p2, p3, p4, p5, by cases args; simp_all, rfl, by simp, g0, g1, g2, g3, g4, g5⟩
theorem trods7 {t0 t1 t2 t3 t4 t5 t6 : TypeId} {args : Array Value} {ds : List (DataW H)} {ps : List MemPlace} (h : DataW.TrodAll enc P w base spare held [t0, t1, t2, t3, t4, t5, t6] args.toList ds ps) :
    ∃ v0 v1 v2 v3 v4 v5 v6 d0 d1 d2 d3 d4 d5 d6 p0 p1 p2 p3 p4 p5 p6, args = #[v0, v1, v2, v3, v4, v5, v6] ∧ ds = [d0, d1, d2, d3, d4, d5, d6] ∧ ps = p0 ++ (p1 ++ (p2 ++ (p3 ++ (p4 ++ (p5 ++ (p6)))))) ∧ DataW.Trod enc P w base spare held t0 v0 d0 p0 ∧ DataW.Trod enc P w base spare held t1 v1 d1 p1 ∧ DataW.Trod enc P w base spare held t2 v2 d2 p2 ∧ DataW.Trod enc P w base spare held t3 v3 d3 p3 ∧ DataW.Trod enc P w base spare held t4 v4 d4 p4 ∧ DataW.Trod enc P w base spare held t5 v5 d5 p5 ∧ DataW.Trod enc P w base spare held t6 v6 d6 p6 := by
  obtain ⟨v0, r0, d0, e0, p0, q0, ha, rfl, rfl, g0, k0⟩ := trodAll_cons h
  obtain ⟨v1, r1, d1, e1, p1, q1, rfl, rfl, rfl, g1, k1⟩ := trodAll_cons k0
  obtain ⟨v2, r2, d2, e2, p2, q2, rfl, rfl, rfl, g2, k2⟩ := trodAll_cons k1
  obtain ⟨v3, r3, d3, e3, p3, q3, rfl, rfl, rfl, g3, k3⟩ := trodAll_cons k2
  obtain ⟨v4, r4, d4, e4, p4, q4, rfl, rfl, rfl, g4, k4⟩ := trodAll_cons k3
  obtain ⟨v5, r5, d5, e5, p5, q5, rfl, rfl, rfl, g5, k5⟩ := trodAll_cons k4
  obtain ⟨v6, r6, d6, e6, p6, q6, rfl, rfl, rfl, g6, k6⟩ := trodAll_cons k5
  obtain ⟨rfl, rfl, rfl⟩ := trodAll_nil k6
  exact ⟨v0, v1, v2, v3, v4, v5, v6, d0, d1, d2, d3, d4, d5, d6, p0, p1, p2, p3, p4, p5, p6, by cases args; simp_all, rfl, by simp, g0, g1, g2, g3, g4, g5, g6⟩

end
end Go.Proofs.Ytilfdpllleninaa
