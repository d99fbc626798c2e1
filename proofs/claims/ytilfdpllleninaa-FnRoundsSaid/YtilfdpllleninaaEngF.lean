/- The engine, part F: indices, slices, stores, new memory. -/
import Derived.Test.YtilfdpllleninaaEngE
import Derived.Laws.IdiomCopy
namespace Go.Proofs.Ytilfdpllleninaa
set_option linter.unusedVariables false
set_option linter.unusedSimpArgs false

section
variable {P : Program} {w0 : World} {X : Nat → Prop} {h : Nat → Option Blk} {N : Nat → Prop} {c : Cx} {tm : Nat → PV} {a : Act}

theorem flat_enc_view {u : UC} {xs : List u.T} {vs : List Value} (hs : All2 SSim (flat u xs) vs) {n : Nat} (hn : n < xs.length) : All2 SSim (u.enc (xs.getD n default)) ((vs.drop (n * u.size)).take u.size) := by
  rw [← flat_get u xs n hn]
  exact (hs.drop _).take _

theorem and_true_iff {a b : Bool} : (a && b) = true ↔ a = true ∧ b = true := by simp

theorem idxR_good (hs : HSim w0 X h c) {T : TT} (hTT : TTOK P T) {t : TypeId} {i : TI} (hT : TIOK P t i) {p q r : PV} {x y : Value} (hp : VSim c p x) (hq : VSim c q y) (hd : Does tm h (idxR T i.d p q) r) :
    Good w0 X h [] N c r ((Instr.indexAt t x y).run P c.w) := by
  have hu := hT.d
  have fin : ∀ {k : IntKind} {n : Int} {e : TypeId} {b o len m : Nat} {sz : Nat}, y = .int k n → x = .slice (some ⟨b, o, none⟩) len m → P.underlying t = some (.slice e) → (sizeOf e).run P c.w = .ok sz c.w → 0 ≤ n → n < len →
      VSim c r (.pointer (some ⟨b, o + n.toNat * sz, none⟩)) → Good w0 X h [] N c r ((Instr.indexAt t x y).run P c.w) := by
    intro k n e b o len m sz hy hx hu hsz h0 h1 hv
    subst hy hx
    refine good_pure hs ?_ hv
    simp [Instr.indexAt, asIntOf, run_underlying hu, h0, h1, hsz, Addr.add_lit]
  unfold idxR at hd
  split at hd
  · rename_i e'
    rw [e'] at hu
    have hu' := hu
    obtain ⟨e, he, hu⟩ : ∃ e, e = _ ∧ P.underlying t = some (.slice e) := ⟨_, rfl, hu⟩
    rw [← he] at hd
    simp only [does_bind, does_blk, does_ti] at hd
    obtain ⟨j, hj, b, rfl, hd⟩ := hd
    split at hd
    · rename_i xs hb
      simp only [does_bind, does_need, and_true_iff, decide_eq_true_eq] at hd
      obtain ⟨_, ⟨h0, h1⟩, hd⟩ := hd
      rw [cond_eq_ite] at hd
      split at hd
      · rename_i hsz
        have hsz := eq_of_beq hsz
        simp only [does_ret] at hd
        subst hd
        simp only [VSim] at hp hq
        obtain ⟨hk, rfl, _⟩ := hp
        obtain ⟨_, vs, ho, _⟩ := hs.blk _ _ hb
        rcases ho.2 with ⟨hv, hn⟩ | ⟨g, cap, cur, fz, hv, _⟩
        · rw [hn] at h1; omega
        · refine fin hq hv hu ((hTT e j hj).sizeOf c.w) h0 h1 ?_
          simp only [VSim]
          exact ⟨hk, g, _, _, hv, by rw [hsz]; simp⟩
      · simp at hd
    · simp at hd
  · rename_i e'
    rw [e'] at hu
    obtain ⟨e, he, hu⟩ : ∃ e, e = _ ∧ P.underlying t = some (.slice e) := ⟨_, rfl, hu⟩
    rw [← he] at hd
    simp only [does_bind, does_ti, does_need, and_true_iff, decide_eq_true_eq] at hd
    obtain ⟨j, hj, _, ⟨h0, h1⟩, hd⟩ := hd
    rw [cond_eq_ite] at hd
    split at hd
    · rename_i hsz
      have hsz := eq_of_beq hsz
      simp only [does_ret] at hd
      subst hd
      simp only [VSim] at hp hq
      obtain ⟨hk, a, m, rfl, _, hne, _⟩ := hp
      obtain ⟨b, l, m', hf, rfl⟩ := hne (by omega)
      refine fin hq rfl hu ((hTT e j hj).sizeOf c.w) h0 h1 ?_
      simp only [VSim]
      exact ⟨hk, b, _, _, hf, by rw [hsz, Nat.add_mul]; simp⟩
    · simp at hd
  · rename_i e'
    rw [e'] at hu
    obtain ⟨e, he, hu⟩ : ∃ e, e = _ ∧ P.underlying t = some (.slice e) := ⟨_, rfl, hu⟩
    rw [← he] at hd
    simp only [does_bind, does_ti, does_need, and_true_iff, decide_eq_true_eq] at hd
    obtain ⟨j, hj, _, ⟨h0, h1⟩, hd⟩ := hd
    rw [cond_eq_ite] at hd
    split at hd
    · rename_i hsz
      have hsz := eq_of_beq hsz
      simp only [does_ret] at hd
      subst hd
      simp only [VSim] at hp hq
      obtain ⟨_, a, m, rfl, _, hw⟩ := hp
      obtain ⟨b, off, rfl, hb, vs, hc, hsim⟩ := hw (fun e => by rw [e] at h1; simp at h1; omega)
      refine fin hq rfl hu ((hTT e j hj).sizeOf c.w) h0 h1 ?_
      simp only [VSim]
      rw [hsz]
      exact ⟨b, _, _, rfl, hb, hc.part _ _, VSims.of_S (flat_enc_view hsim (by omega))⟩
    · simp at hd
  · rename_i e'
    rw [e'] at hu
    obtain ⟨len, e, hl, he, hu⟩ : ∃ len e, len = _ ∧ e = _ ∧ P.underlying t = some (.array len e) := ⟨_, _, rfl, rfl, hu⟩
    rw [← he, ← hl] at hd
    simp only [does_bind, does_ti, does_need, and_true_iff, decide_eq_true_eq, does_lift] at hd
    obtain ⟨j, hj, _, ⟨h0, h1⟩, hd⟩ := hd
    obtain ⟨b, o, rfl, hv⟩ := moveR_sim hp hd
    simp only [VSim] at hq
    subst hq
    refine good_pure hs ?_ hv
    simp [Instr.indexAt, asIntOf, run_underlying hu, h0, h1, (hTT e j hj).sizeOf, Addr.add_lit, Instr.sureAddr]
  · rename_i e'
    rw [e'] at hu
    obtain ⟨e, he, hu⟩ : ∃ e, e = _ ∧ P.underlying t = some (.slice e) := ⟨_, rfl, hu⟩
    rw [← he] at hd
    simp only [does_bind, does_ti, does_need, and_true_iff, decide_eq_true_eq] at hd
    obtain ⟨j, hj, _, ⟨h0, h1⟩, hd⟩ := hd
    rw [cond_eq_ite] at hd
    split at hd
    · rename_i hsz
      have hsz := eq_of_beq hsz
      simp only [does_ret] at hd
      subst hd
      simp only [VSim] at hp hq
      obtain ⟨b, vs, rfl, hb, hc, hsim⟩ := hp
      refine fin hq rfl hu ((hTT e j hj).sizeOf c.w) h0 h1 ?_
      simp only [VSim]
      exact ⟨b, 0, vs, by rw [hsz, Nat.mul_one], hb, hc, hsim⟩
    · simp at hd
  · simp at hd

theorem indexR_good (hs : HSim w0 X h c) {T : TT} (hTT : TTOK P T) {t : TypeId} {i : TI} (hT : TIOK P t i) {p q r : PV} {x y : Value} (hp : VSim c p x) (hq : VSim c q y) (hd : Does tm h (indexR T i.d p q) r) :
    Good w0 X h [] N c r ((Instr.index t x y).run P c.w) := by
  have hu := hT.d
  unfold indexR at hd
  split at hd
  · rename_i e'
    rw [e'] at hu
    have hu : P.underlying t = some .string := hu
    simp only [does_bind, does_need, and_true_iff, decide_eq_true_eq, does_ret] at hd
    obtain ⟨_, ⟨h0, h1⟩, rfl⟩ := hd
    simp only [VSim] at hp hq
    subst hq
    obtain ⟨s, rfl, rfl⟩ := hp
    rename_i k n _
    have hlt : n.toNat < s.size := by have : s.data.toList.length = s.size := by simp
                                      omega
    refine good_int hs ?_
    have hg : s[n.toNat]? = some s[n.toNat] := ByteArray.getElem?_lt' s _ hlt
    have hg2 : s.data.toList.getD n.toNat 0 = s[n.toNat] := by
      rw [List.getD_eq_getElem?_getD, Array.getElem?_toList]
      have : s.data[n.toNat]? = some s[n.toNat] := by
        rw [Array.getElem?_eq_getElem (by simpa using hlt)]; rfl
      rw [this]; rfl
    rw [hg2]
    simp [Instr.index, asIntOf, run_underlying hu, h0, hg]
  · rename_i e'
    rw [e'] at hu
    obtain ⟨len, e, hl, he, hu⟩ : ∃ len e, len = _ ∧ e = _ ∧ P.underlying t = some (.array len e) := ⟨_, _, rfl, rfl, hu⟩
    rw [← he, ← hl] at hd
    simp only [does_bind, does_ti, does_need, and_true_iff, decide_eq_true_eq, does_lift] at hd
    obtain ⟨j, hj, _, ⟨h0, h1⟩, hd⟩ := hd
    simp only [VSim] at hp hq
    subst hq
    obtain ⟨vs, rfl, hvs⟩ := hp
    obtain ⟨v, hr, hv⟩ := run_part (hTT e j hj) hvs hd
    exact good_pure hs (by simp [Instr.index, asIntOf, run_underlying hu, h0, h1, (hTT e j hj).sizeOf, hr]) hv
  · simp at hd

/-- A bound of a slice expression. -/
theorem bound_run {p : Option PV} {v : Option Value} (hpv : (p = none ∧ v = none) ∨ ∃ q x, p = some q ∧ v = some x ∧ VSim c q x) {most dflt n : Nat} (hd : Does tm h (boundR p most dflt) n) (w : World) (code : BoundsCode) :
    (match v with | some x => Instr.sliceBound x most code | none => (pure dflt : Sem Nat)).run P w = .ok n w ∧ (v = none → n = dflt) ∧ (v ≠ none → n ≤ most) := by
  rcases hpv with ⟨rfl, rfl⟩ | ⟨q, x, rfl, rfl, hq⟩
  · simp only [boundR, does_ret] at hd
    subst hd
    exact ⟨rfl, fun _ => rfl, fun e => absurd rfl e⟩
  · unfold boundR at hd
    split at hd
    · rename_i e; cases e
    · rename_i k m e
      cases e
      simp only [VSim] at hq
      subst hq
      simp only [does_bind, does_need, and_true_iff, decide_eq_true_eq, does_ret] at hd
      obtain ⟨_, ⟨h0, h1⟩, rfl⟩ := hd
      refine ⟨?_, fun e => (by cases e), fun _ => by omega⟩
      simp [Instr.sliceBound, asIntOf, h0, h1]
    · simp at hd

theorem sliceBounds_run {pl ph : Option PV} {vl vh : Option Value} (hl : (pl = none ∧ vl = none) ∨ ∃ q x, pl = some q ∧ vl = some x ∧ VSim c q x) (hh : (ph = none ∧ vh = none) ∨ ∃ q x, ph = some q ∧ vh = some x ∧ VSim c q x)
    {len cap m l : Nat} (hlc : len ≤ cap) (h1 : Does tm h (boundR ph len len) m) (h2 : Does tm h (boundR pl m 0) l) (b : Bool) (w : World) :
    (Instr.sliceBounds b len cap vl vh none).run P w = .ok (l, m, cap) w ∧ l ≤ m ∧ m ≤ len := by
  have hm : m ≤ len := by
    have := (bound_run (P := P) hh h1 w .sliceB)
    cases vh with
    | none => rw [this.2.1 rfl]; exact Nat.le_refl _
    | some x => exact this.2.2 (by simp)
  have hll : l ≤ m := by
    have := (bound_run (P := P) hl h2 w .sliceB)
    cases vl with
    | none => rw [this.2.1 rfl]; exact Nat.zero_le _
    | some x => exact this.2.2 (by simp)
  have k2 := (bound_run (P := P) hl h2 w .sliceB).1
  have k1 : (match vh with | some x => Instr.sliceBound x cap (if b then .sliceAcap else .sliceAlen) | none => (pure len : Sem Nat)).run P w = .ok m w := by
    rcases hh with ⟨rfl, rfl⟩ | ⟨q, x, rfl, rfl, hq⟩
    · simp only [boundR, does_ret] at h1
      subst h1
      rfl
    · unfold boundR at h1
      split at h1
      · rename_i e; cases e
      · rename_i k n e
        cases e
        simp only [VSim] at hq
        subst hq
        simp only [does_bind, does_need, and_true_iff, decide_eq_true_eq, does_ret] at h1
        obtain ⟨_, ⟨h0, h1⟩, rfl⟩ := h1
        have : n ≤ (cap : Int) := by omega
        simp [Instr.sliceBound, asIntOf, h0, this]
      · simp at h1
  refine ⟨?_, hll, hm⟩
  cases vh with
  | none =>
    simp only at k1
    cases vl with
    | none => simp only at k2; simp [Instr.sliceBounds]; simp at k1 k2; omega
    | some y => simp only at k2; simp [Instr.sliceBounds]; simp at k1; rw [← k1] at k2 ⊢; simp [k2]
  | some x =>
    simp only at k1
    cases vl with
    | none => simp only at k2; simp [Instr.sliceBounds, k1]; simp at k2; omega
    | some y => simp only at k2; simp [Instr.sliceBounds, k1, k2]

theorem extract_list (s : ByteArray) (l m : Nat) : (s.extract l m).data.toList = (s.data.toList.take m).drop l := by
  rw [ByteArray.data_extract, Array.toList_extract, List.extract_eq_take_drop, List.drop_take]

theorem sliceR_good (hs : HSim w0 X h c) {T : TT} (hTT : TTOK P T) {t : TypeId} {i : TI} (hT : TIOK P t i) {p r : PV} {x : Value} (hp : VSim c p x)
    {pl ph : Option PV} {vl vh : Option Value} (hl : (pl = none ∧ vl = none) ∨ ∃ q x, pl = some q ∧ vl = some x ∧ VSim c q x) (hh : (ph = none ∧ vh = none) ∨ ∃ q x, ph = some q ∧ vh = some x ∧ VSim c q x)
    (hd : Does tm h (sliceR T i.d p pl ph) r) : Good w0 X h [] N c r ((Instr.sliceAt t x vl vh none).run P c.w) := by
  have hu := hT.d
  unfold sliceR at hd
  split at hd
  · rename_i e'
    rw [e'] at hu
    have hu : P.underlying t = some .string := hu
    simp only [does_bind, does_ret] at hd
    obtain ⟨m, h1, l, h2, rfl⟩ := hd
    simp only [VSim] at hp
    obtain ⟨s, rfl, rfl⟩ := hp
    have hsz : s.data.toList.length = s.size := by simp
    rw [hsz] at h1
    obtain ⟨hr, _, _⟩ := sliceBounds_run (P := P) hl hh (Nat.le_refl s.size) h1 h2 false c.w
    refine good_pure hs (v := .string (s.extract l m)) ?_ ?_
    · simp [Instr.sliceAt, Instr.slice, run_underlying hu, hr]
    · simp only [VSim]; exact ⟨_, rfl, extract_list s l m⟩
  · rename_i e'
    rw [e'] at hu
    obtain ⟨e, he, hu⟩ : ∃ e, e = _ ∧ P.underlying t = some (.slice e) := ⟨_, rfl, hu⟩
    rw [← he] at hd
    simp only [does_bind, does_ti] at hd
    obtain ⟨j, hj, m, h1, l, h2, hd⟩ := hd
    rw [cond_eq_ite] at hd
    split at hd
    · rename_i hsz
      have hsz := eq_of_beq hsz
      simp only [does_ret] at hd
      subst hd
      simp only [VSim] at hp
      obtain ⟨_, a, cap, rfl, hcap, hw⟩ := hp
      obtain ⟨hr, hlm, hml⟩ := sliceBounds_run (P := P) hl hh hcap h1 h2 true c.w
      refine good_pure hs (v := .slice (if cap = l then a else a.map (·.add (l * j.sz))) (m - l) (cap - l)) ?_ ?_
      · simp [Instr.sliceAt, Instr.slice, run_underlying hu, hr, (hTT e j hj).sizeOf]
      · simp only [VSim]
        refine ⟨(fun i e => by cases e), (if cap = l then a else a.map (·.add (l * j.sz))), cap - l, ?_, ?_, ?_⟩
        · rw [List.length_drop, List.length_take, Nat.min_eq_left hml]
        · rw [List.length_drop, List.length_take, Nat.min_eq_left hml]; omega
        · intro hne
          have hlt : l < m := by
            rcases Nat.lt_or_ge l m with h' | h'
            · exact h'
            · exact absurd (List.drop_eq_nil_of_le (by rw [List.length_take]; omega)) hne
          obtain ⟨b, off, rfl, hb, vs, hc, hsim⟩ := hw (fun e => by rw [e] at hml; simp at hml; omega)
          refine ⟨b, off + l * j.sz, ?_, hb, _, hc.part (l * j.sz) ((m - l) * j.sz), ?_⟩
          · rw [if_neg (by omega)]; simp [Addr.add_lit]
          · rw [flat_drop, flat_take, hsz]
            have := (hsim.take (m * j.sz)).drop (l * j.sz)
            rw [hsz, List.drop_take, List.drop_take] at this
            rw [List.drop_take, Nat.sub_mul]
            exact this
    · simp at hd
  · rename_i e'
    rw [e'] at hu
    obtain ⟨e, he, hu⟩ : ∃ e, e = _ ∧ P.underlying t = some (.slice e) := ⟨_, rfl, hu⟩
    rw [← he] at hd
    simp only [does_bind, does_ti, does_blk] at hd
    obtain ⟨j, hj, b, rfl, hd⟩ := hd
    split at hd
    · rename_i xs hb
      simp only [does_bind] at hd
      obtain ⟨m, h1, l, h2, hd⟩ := hd
      rw [cond_eq_ite] at hd
      split at hd
      · rename_i hsz
        have hsz := eq_of_beq hsz
        simp only [does_ret] at hd
        subst hd
        simp only [VSim] at hp
        obtain ⟨hk, rfl, _⟩ := hp
        obtain ⟨_, vs, ho, _⟩ := hs.blk _ _ hb
        obtain ⟨a, cap, hx, hcap, hblk⟩ : ∃ a cap, c.φ _ = .slice a xs.length cap ∧ xs.length ≤ cap ∧ (xs.length ≠ 0 → ∃ g, a = some ⟨g, 0, none⟩) := by
          rcases ho.2 with ⟨hv, hn⟩ | ⟨g, cap, cur, fz, hv, _, _, hn, _⟩
          · exact ⟨none, 0, by rw [hv, hn], by rw [hn]; exact Nat.le_refl _, fun hne => absurd hn hne⟩
          · exact ⟨_, cap, hv, hn, fun _ => ⟨g, rfl⟩⟩
        obtain ⟨hr, hlm, hml⟩ := sliceBounds_run (P := P) hl hh hcap h1 h2 true c.w
        rw [hx]
        refine good_pure hs (v := .slice (if cap = l then a else a.map (·.add (l * j.sz))) (m - l) (cap - l)) ?_ ?_
        · simp [Instr.sliceAt, Instr.slice, run_underlying hu, hr, (hTT e j hj).sizeOf]
        · simp only [VSim]
          refine ⟨hk, _, _, rfl, by omega, fun hne => ?_, a, xs.length, cap, hx, by omega, fun h0 => ?_⟩
          case refine_2 =>
            subst h0
            refine ⟨?_, by omega⟩
            split
            · rfl
            · cases a with
              | none => rfl
              | some a => simp [Addr.add]
          obtain ⟨g, rfl⟩ := hblk (by omega)
          refine ⟨g, _, _, hx, ?_⟩
          rw [if_neg (by omega), hsz]
          simp [Addr.add_lit]
      · simp at hd
    · simp at hd
  · rename_i n e id j e'
    rw [e'] at hu
    have hu : P.underlying t = some (.array n e) := hu
    simp only [does_bind, does_ti] at hd
    obtain ⟨k, hk, hd⟩ := hd
    rw [cond_eq_ite] at hd
    split at hd
    · rename_i hc
      simp only [Bool.and_eq_true] at hc
      obtain ⟨⟨hj, _⟩, hpl, hph⟩ := hc
      have hj := Nat.eq_of_beq_eq_true hj
      subst hj
      simp only [does_ret] at hd
      subst hd
      have hl' : vl = none := by
        rcases hl with ⟨_, h⟩ | ⟨q, x, h, _⟩
        · exact h
        · rw [h] at hpl; simp at hpl
      have hh' : vh = none := by
        rcases hh with ⟨_, h⟩ | ⟨q, x, h, _⟩
        · exact h
        · rw [h] at hph; simp at hph
      subst hl' hh'
      simp only [VSim] at hp
      obtain ⟨hk', b, hf, rfl⟩ := hp
      refine good_pure hs (v := .slice (some ⟨b, 0, none⟩) n n) ?_ ?_
      · by_cases h0 : n = 0
        · subst h0
          simp [Instr.sliceAt, Instr.sureAddr, Instr.sliceBounds, run_underlying hu, (hTT e k hk).sizeOf]
        · simp [Instr.sliceAt, Instr.sureAddr, Instr.sliceBounds, run_underlying hu, (hTT e k hk).sizeOf, Addr.add, h0]
      · simp only [VSim]
        exact ⟨hk', b, hf, rfl⟩
    · simp at hd
  · simp at hd

/-! ## Stores -/

theorem over_sim {ps qs : List PV} {vs us : List Value} (h1 : VSims c ps vs) (h2 : VSims c qs us) (j : Nat) : VSims c (over ps j qs) (vs.take j ++ us ++ vs.drop (j + us.length)) := by
  have h1' := (VSims_iff c _ _).1 h1
  have h2' := (VSims_iff c _ _).1 h2
  refine (VSims_iff c _ _).2 ?_
  unfold over
  rw [← h2'.length]
  exact ((h1'.take j).append h2').append (h1'.drop _)

theorem SSims_of : ∀ {ps : List PV} {vs : List Value}, VSims c ps vs → scalars ps = true → All2 SSim ps vs
  | [], [], _, _ => trivial
  | [], _ :: _, hs, _ => by simp [VSims] at hs
  | _ :: _, [], hs, _ => by simp [VSims] at hs
  | p :: ps, v :: vs, hs, ho => by
    simp only [VSims] at hs
    cases p <;> simp only [scalars, Bool.false_eq_true] at ho
    all_goals
      refine ⟨?_, SSims_of hs.2 ho⟩
      have := hs.1
      simp only [VSim] at this
      exact this

theorem scalars_enc (u : UC) (x : u.T) : scalars (u.enc x) = true := by cases u <;> rfl

theorem flat_set (u : UC) : ∀ (xs : List u.T) (n : Nat) (x : u.T), n < xs.length → flat u (xs.set n x) = (flat u xs).take (n * u.size) ++ u.enc x ++ (flat u xs).drop (n * u.size + u.size)
  | [], _, _, hn => by simp at hn
  | y :: xs, 0, x, _ => by
    simp only [List.set_cons_zero, flat, Nat.zero_mul, List.take_zero, List.nil_append, Nat.zero_add]
    rw [← UC.enc_length u y, List.drop_left]
  | y :: xs, n + 1, x, hn => by
    simp only [List.set_cons_succ, flat]
    rw [flat_set u xs n x (by simpa using hn)]
    have e : (n + 1) * u.size = (u.enc y).length + n * u.size := by rw [UC.enc_length, Nat.add_mul]; omega
    rw [e, List.take_length_add_append, Nat.add_assoc, ← List.drop_drop (l := u.enc y ++ flat u xs), List.drop_left]
    simp

theorem setCells_row {g : Nat} {t : TypeId} {fz : Nat × Nat} : ∀ (vs : List Value) (o : Nat) (cur : Array Value) (w : World), w.heap[g]? = some (.cells cur t fz) → o + vs.length ≤ cur.size →
    w.setCells g o vs = w.setRow g (cur.toList.take o ++ vs ++ cur.toList.drop (o + vs.length)).toArray
  | [], o, cur, w, hg, _ => by
    have e : (cur.toList.take o ++ [] ++ cur.toList.drop (o + List.length ([] : List Value))).toArray = cur := by simp
    rw [e, setRow_self w g cur t fz hg]
    rfl
  | v :: r, o, cur, w, hg, hl => by
    have hl' : o + (r.length + 1) ≤ cur.size := hl
    have ih := setCells_row (t := t) (fz := fz) r (o + 1) (cur.setIfInBounds o v) (w.setRow g (cur.setIfInBounds o v)) (setRow_heap w g cur _ t _ hg) (by rw [Array.size_setIfInBounds]; omega)
    show (w.setCell ⟨g, o, none⟩ v).setCells g (o + 1) r = _
    rw [setCell_eq_setRow w g o cur t fz v hg, ih, setRow_setRow]
    congr 2
    have e := list_seg_step cur.toList o v r (by simpa using hl')
    simpa [Array.toList_setIfInBounds, Nat.add_assoc] using e

theorem run_storeCells_row (P : Program) {g : Nat} {t : TypeId} {fz : Nat × Nat} (o : Nat) (vs : List Value) (cur : Array Value) (w : World) (hg : w.heap[g]? = some (.cells cur t fz)) (hf : FzOK fz cur.size) (hl : o + vs.length ≤ cur.size) (h1 : ∀ v ∈ vs, v.oneCell' = true) :
    (storeCells ⟨g, o, none⟩ vs 0).run P w = .ok () (w.setRow g (cur.toList.take o ++ vs ++ cur.toList.drop (o + vs.length)).toArray) := by
  have hst := run_storeCells_cells (P := P) g o vs 0 w (fun j hj => by simp only [World.cell?, hg]; simp; omega) (fun j hj => frozen_not hg hf (by omega)) h1
  rw [hst, Nat.add_zero, setCells_row vs o cur w hg hl]

theorem storeR_good (hs : HSim w0 X h c) {o : Oper} {ac : Act} {t : TypeId} {oa ox : Operand} (ho : o.op = .store t oa ox) {i : TI} (hT : TIOK P t i) {p q : PV} {r : OR} (hp : VSim c p (ac.eval oa)) (hq : VSim c q (ac.eval ox))
    (hd : Does tm h (storeR i p q) r) : OpGood P o ac w0 X h r.wr N c r.v := by
  have hx : execOp ac.eval o = (do Instr.storeAt t (ac.eval oa) (ac.eval ox); pure Next.skip) := by unfold execOp; rw [ho]
  -- the store of cells into a block
  have fin : ∀ {b k : Nat} {cur : Array Value} {e : TypeId} {fz : Nat × Nat} {ws : List PV}, ac.eval oa = .pointer (some ⟨b, k, none⟩) → c.w.heap[b]? = some (.cells cur e fz) → FzOK fz cur.size → q.cellsOf = some ws → ws.length = i.sz → oneCells ws = true → k + i.sz ≤ cur.size →
      VSims c ws (ac.eval ox).cells.toList ∧ (Instr.storeAt t (ac.eval oa) (ac.eval ox)).run P c.w = .ok () (c.w.setRow b (cur.toList.take k ++ (ac.eval ox).cells.toList ++ cur.toList.drop (k + (ac.eval ox).cells.toList.length)).toArray) := by
    intro b k cur e fz ws ha hb hfz hws hl h1 hk
    have hsim := cellsOf_sim hq hws
    have hlen := ((VSims_iff c _ _).1 hsim).length
    have hrun := run_storeCells_row P k (ac.eval ox).cells.toList cur c.w hb hfz (by omega) (oneCells_sim hsim h1)
    have hsz : (ac.eval ox).cells.size = i.sz := by
      have : (ac.eval ox).cells.toList.length = (ac.eval ox).cells.size := by simp
      omega
    refine ⟨hsim, ?_⟩
    rw [ha]
    simp [Instr.storeAt, Instr.sureAddr, storeVar, hT.sizeOf, hsz, hrun]
  unfold storeR at hd
  split at hd
  · rename_i id k
    simp only [does_bind, does_blk] at hd
    obtain ⟨b0, rfl, hd⟩ := hd
    split at hd
    · rename_i cs hb
      simp only [does_bind, does_lift] at hd
      obtain ⟨ws, hws, hd⟩ := hd
      rw [cond_eq_ite] at hd
      split at hd
      · rename_i hc
        simp only [and_true_iff] at hc
        obtain ⟨⟨hl, hk⟩, h1⟩ := hc
        have hl := eq_of_beq hl
        have hk := Nat.le_of_ble_eq_true hk
        simp only [does_ret] at hd
        subst hd
        obtain ⟨hK, b, arr, e, hf, hheap, hsim⟩ := hs.blk id _ hb
        simp only [VSim] at hp
        obtain ⟨_, b', hf', ha⟩ := hp
        rw [hf] at hf'
        cases hf'
        have hlen := ((VSims_iff c _ _).1 hsim).length
        have hle : k + i.sz ≤ arr.size := by
          have : arr.toList.length = arr.size := by simp
          omega
        obtain ⟨hsim2, hrun⟩ := fin ha hheap (.inl rfl) hws hl h1 hle
        obtain ⟨cs1, hcs1⟩ : ∃ x, x = (arr.toList.take k ++ (ac.eval ox).cells.toList ++ arr.toList.drop (k + (ac.eval ox).cells.toList.length)).toArray := ⟨_, rfl⟩
        rw [← hcs1] at hrun
        have hw := hs.wrote id _ hb b (by rw [hf]; rfl) (c.w.setRow b cs1) (fun n hn => setRow_other c.w b n _ hn) (setRow_size c.w b _) rfl rfl rfl (.cells (over cs k ws)) (fun c' hw' hφ he => by
          refine ⟨b, cs1, e, by rw [hφ]; exact hf, by rw [hw']; exact setRow_heap c.w b arr _ e _ hheap, ?_⟩
          have := over_sim ((VSims.ext (he fun _ => False) hsim)) (VSims.ext (he fun _ => False) hsim2) k
          rw [hcs1]
          simpa using this)
        exact opGood_unit hx hrun (hw.1 N) hw.2
      · simp at hd
    · simp at hd
  · rename_i id sz n k
    simp only [does_bind, does_blk] at hd
    obtain ⟨b0, rfl, hd⟩ := hd
    split at hd
    · rename_i e u xs hb
      simp only [does_bind, does_lift, does_need, decide_eq_true_eq] at hd
      obtain ⟨_, hn, ws, hws, x, hx', hd⟩ := hd
      rw [cond_eq_ite] at hd
      split at hd
      · rename_i hc
        simp only [and_true_iff] at hc
        obtain ⟨⟨⟨hl, hk⟩, hsz⟩, h1⟩ := hc
        have hl := eq_of_beq hl
        have hk := Nat.le_of_ble_eq_true hk
        have hsz := eq_of_beq hsz
        subst hsz
        simp only [does_ret] at hd
        subst hd
        obtain ⟨hK, vs, hown, hsim⟩ := hs.blk id _ hb
        simp only [VSim] at hp
        obtain ⟨_, b, l, m, hf, ha⟩ := hp
        obtain ⟨cap, cur, hv, ⟨fz, hheap, hfz⟩, hcap, hsize, htake, _⟩ := ownsRow_cells hown (by rw [hf]; rfl)
        have hbound : n * u.size + u.size ≤ xs.length * u.size := by
          have := Nat.mul_le_mul_right u.size (show n + 1 ≤ xs.length from hn)
          rwa [Nat.add_mul, Nat.one_mul] at this
        have hbound2 : xs.length * u.size ≤ cur.size := by rw [hsize]; exact Nat.mul_le_mul_right _ hcap
        obtain ⟨hsim2, hrun⟩ := fin ha hheap hfz hws hl h1 (by omega)
        obtain ⟨cs1, hcs1⟩ : ∃ x, x = (cur.toList.take (n * u.size + k) ++ (ac.eval ox).cells.toList ++ cur.toList.drop (n * u.size + k + (ac.eval ox).cells.toList.length)).toArray := ⟨_, rfl⟩
        rw [← hcs1] at hrun
        have hw := hs.wrote id _ hb b (by rw [hf]; rfl) (c.w.setRow b cs1) (fun n hn => setRow_other c.w b n _ hn) (setRow_size c.w b _) rfl rfl rfl (.typed e u (xs.set n x)) (fun c' hw' hφ he => by
          have hlen2 := ((VSims_iff c _ _).1 hsim2).length
          have hrw : (ac.eval ox).cells.toList.length = (ac.eval ox).cells.size := by simp
          have henc := UC.enc_dec u _ x hx'
          have hscal : scalars ws = true := by
            have hs1 := scalars_enc u x
            rw [henc] at hs1
            have key : ∀ (a b : List PV), scalars (a ++ b) = true → scalars b = true := by
              intro a
              induction a with
              | nil => intro b hb; exact hb
              | cons p a ih => intro b hb; cases p <;> simp only [List.cons_append, scalars, Bool.false_eq_true] at hb <;> exact ih b hb
            have key2 : ∀ (a b : List PV), scalars (a ++ b) = true → scalars a = true := by
              intro a
              induction a with
              | nil => intro b _; rfl
              | cons p a ih => intro b hb; cases p <;> simp only [List.cons_append, scalars, Bool.false_eq_true] at hb ⊢ <;> exact ih b hb
            unfold over at hs1
            exact key _ _ (key2 _ _ hs1)
          have hS2 := SSims_of hsim2 hscal
          refine ⟨(vs.take (n * u.size + k) ++ (ac.eval ox).cells.toList ++ vs.drop (n * u.size + k + (ac.eval ox).cells.toList.length)), ?_, ?_⟩
          · have hvl : vs.length = xs.length * u.size := hown.1
            refine ⟨?_, .inr ⟨b, cap, cs1, fz, by rw [hφ, hv, List.length_set], by rw [hw']; exact setRow_heap c.w b cur _ e _ hheap, by rw [hcs1]; rw [show (cur.toList.take (n * u.size + k) ++ (ac.eval ox).cells.toList ++ cur.toList.drop (n * u.size + k + (ac.eval ox).cells.toList.length)).toArray.size = cur.size from by simp only [List.size_toArray, List.length_append, List.length_take, List.length_drop, Array.length_toList]; omega]; exact hfz, by rw [List.length_set]; exact hcap, ?_, ?_, ?_⟩⟩
            · simp only [List.length_append, List.length_take, List.length_drop, List.length_set]; omega
            · rcases hown.2 with ⟨hv', _⟩ | ⟨g, cap', cur', fz', hv', _, _, _, hm, _⟩
              · rw [hv'] at hv; cases hv
              · rw [hv'] at hv; cases hv; exact hm
            · rw [← hsize, hcs1]
              simp only [List.size_toArray, List.length_append, List.length_take, List.length_drop, Array.length_toList]; omega
            · rw [List.length_set, hcs1, List.toList_toArray]
              apply List.ext_getElem?
              intro q
              have hcurl : cur.toList.length = cur.size := by simp
              have hvq : ∀ q, q < xs.length * u.size → vs[q]? = cur.toList[q]? := fun q hq => by rw [← htake, List.getElem?_take, if_pos hq]
              rw [List.getElem?_take]
              simp only [List.getElem?_append, List.length_append, List.length_take, List.getElem?_take, List.getElem?_drop]
              by_cases hq : q < xs.length * u.size
              · rw [if_pos hq]
                have e1 : min (n * u.size + k) cur.toList.length = n * u.size + k := by omega
                have e2 : min (n * u.size + k) vs.length = n * u.size + k := by omega
                rw [e1, e2]
                by_cases q1 : q < n * u.size + k
                · rw [if_pos (by omega), if_pos q1, if_pos q1, if_pos (by omega), if_pos q1, if_pos q1, hvq q hq]
                · by_cases q2 : q < n * u.size + k + (ac.eval ox).cells.toList.length
                  · rw [if_pos q2, if_neg q1, if_pos q2, if_neg q1]
                  · rw [if_neg q2, if_neg q2, ← hvq _ (by omega)]
              · rw [if_neg hq]
                symm
                rw [if_neg (by omega)]
                rw [List.getElem?_eq_none (by omega)]
          · rw [flat_set u xs n x hn, henc]
            have hfl := flat_length u xs
            have hget := flat_get u xs n hn
            have hA : (flat u xs).take (n * u.size) ++ over (u.enc (xs.getD n default)) k ws ++ (flat u xs).drop (n * u.size + u.size) = over (flat u xs) (n * u.size + k) ws := by
              unfold over
              have hel := UC.enc_length u (xs.getD n default)
              rw [← hget]
              rw [List.take_take, Nat.min_eq_left (by omega)]
              rw [List.drop_take, List.drop_drop]
              rw [List.take_add]
              simp only [List.append_assoc]
              congr 2
              congr 1
              have : (flat u xs).drop (n * u.size + u.size) = ((flat u xs).drop (n * u.size + (k + ws.length))).drop (u.size - (k + ws.length)) := by
                rw [List.drop_drop]; congr 1; omega
              rw [this, List.take_append_drop]
              congr 1
              omega
            rw [hA]
            unfold over
            have hlw := hS2.length
            rw [← hlw]
            exact ((hsim.take _).append hS2).append (hsim.drop _))
        exact opGood_unit hx hrun (hw.1 N) hw.2
      · simp at hd
    · simp at hd
  · simp at hd

end
end Go.Proofs.Ytilfdpllleninaa
