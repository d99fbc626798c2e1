/- The engine, part K: a region that draws its order: whatever the order, what is left is what the order of the text leaves. -/
import Derived.Test.YtilfdpllleninaaEngJ
namespace Go.Proofs.Ytilfdpllleninaa
set_option linter.unusedVariables false
set_option linter.unusedSimpArgs false

def look (s : PS) : Res → PV ⊕ Option Blk
  | .t n => .inl (s.1 n)
  | .b n => .inr (s.2 n)

theorem run_local {α : Type} {x : Rd α} {s s' : PS} : ∀ {ds ds' : Orc} {a : α} {cs : Conds} {fp : List Res}, x.run s.1 s.2 ds = some (a, ds', cs, fp) → (∀ r ∈ fp, look s r = look s' r) → x.run s'.1 s'.2 ds = some (a, ds', cs, fp) := by
  induction x with
  | ret b => intro ds ds' a cs fp e _; exact e
  | tmp t k ih =>
    intro ds ds' a cs fp e hl
    simp only [Rd.run] at e ⊢
    split at e
    · rename_i r
      simp only [Option.some.injEq, Prod.mk.injEq] at e
      obtain ⟨rfl, rfl, rfl, rfl⟩ := e
      have h0 : s.1 t = s'.1 t := by have := hl (.t t) (by simp); simpa [look] using this
      rw [← h0, ih _ r fun q hq => hl q (by simp [hq])]
    · cases e
  | blk t k ih =>
    intro ds ds' a cs fp e hl
    simp only [Rd.run] at e ⊢
    split at e
    · rename_i r
      simp only [Option.some.injEq, Prod.mk.injEq] at e
      obtain ⟨rfl, rfl, rfl, rfl⟩ := e
      have h0 : s.2 t = s'.2 t := by have := hl (.b t) (by simp); simpa [look] using this
      rw [← h0, ih _ r fun q hq => hl q (by simp [hq])]
    · cases e
  | ask q c k ih =>
    intro ds ds' a cs fp e hl
    simp only [Rd.run] at e ⊢
    split at e
    · rename_i h d hq
      split at e
      · rename_i r
        simp only [Option.some.injEq, Prod.mk.injEq] at e
        obtain ⟨rfl, rfl, rfl, rfl⟩ := e
        simp only [hq, ih _ r hl]
      · cases e
    · rename_i hq
      try simp only [hq]
      split at e
      · rename_i hds
        try simp only [hds]
        exact ih _ e hl
      · rename_i ds1 hds
        try simp only [hds]
        exact ih _ e hl
      · rename_i h d ds1 hds
        try simp only [hds]
        split at e
        · rename_i r
          simp only [Option.some.injEq, Prod.mk.injEq] at e
          obtain ⟨rfl, rfl, rfl, rfl⟩ := e
          rw [ih _ r hl]
        · cases e
  | fail => intro ds ds' a cs fp e; simp [Rd.run] at e

theorem resIn_iff (x : Res) : ∀ (l : List Res), resIn x l = true ↔ x ∈ l
  | [] => by simp [resIn]
  | y :: ys => by
    simp only [resIn, Bool.or_eq_true, resIn_iff x ys, List.mem_cons]
    cases x <;> cases y <;> simp

theorem meet_iff : ∀ (a b : List Res), meet a b = true ↔ ∃ x ∈ a, x ∈ b
  | [], b => by simp [meet]
  | x :: xs, b => by simp [meet, resIn_iff, meet_iff xs b]

theorem natIn_iff (x : Nat) : ∀ (l : List Nat), natIn x l = true ↔ x ∈ l
  | [] => by simp [natIn]
  | y :: ys => by simp [natIn, natIn_iff x ys]

/-! ## What a step leaves -/

theorem updH_look : ∀ (wr : List (Nat × Option Blk)) (h h' : Nat → Option Blk) (n : Nat), (Res.b n ∈ wrIds wr → updH h wr n = updH h' wr n) ∧ (Res.b n ∉ wrIds wr → updH h wr n = h n)
  | [], h, h', n => by simp [wrIds, updH]
  | (i, b) :: r, h, h', n => by
    have ih := updH_look r (fun n => bif n == i then b else h n) (fun n => bif n == i then b else h' n) n
    have ih2 := updH_look r (fun n => bif n == i then b else h' n) (fun n => bif n == i then b else h n) n
    simp only [wrIds, updH, List.mem_cons, Res.b.injEq]
    constructor
    · intro hm
      by_cases q : Res.b n ∈ wrIds r
      · exact ih.1 q
      · rw [ih.2 q, ih2.2 q]
        have hn : n = i := hm.resolve_right q
        subst hn
        show (bif n == n then b else h n) = (bif n == n then b else h' n)
        rw [beq_self_eq_true]
        rfl
    · intro hm
      have h1 : n ≠ i := fun e => hm (.inl e)
      rw [ih.2 (fun e => hm (.inr e))]
      show (bif n == i then b else h n) = h n
      rw [beq_eq_false_iff_ne.2 h1]
      rfl

theorem wrIds_no_t (wr : List (Nat × Option Blk)) (d : Nat) : Res.t d ∉ wrIds wr := by
  induction wr with
  | nil => simp [wrIds]
  | cons x r ih => obtain ⟨i, b⟩ := x; simp [wrIds, ih]

theorem app_in (k : Stp) (s s' : PS) {r : Res} (hr : r ∈ k.ws) : look (k.app s) r = look (k.app s') r := by
  unfold Stp.ws at hr
  cases r with
  | t d =>
    cases hd : k.o.dst with
    | none => rw [hd] at hr; exact absurd hr (wrIds_no_t _ _)
    | some e =>
      rw [hd] at hr
      have hr : Res.t d ∈ Res.t e :: wrIds k.r.wr := hr
      simp only [List.mem_cons, Res.t.injEq, wrIds_no_t, or_false] at hr
      subst hr
      simp [look, Stp.app, putT, hd]
  | b n =>
    have hm : Res.b n ∈ wrIds k.r.wr := by cases hd : k.o.dst <;> rw [hd] at hr <;> simpa using hr
    simp only [look, Stp.app]
    exact congrArg _ ((updH_look k.r.wr s.2 s'.2 n).1 hm)

theorem app_out (k : Stp) (s : PS) {r : Res} (hr : r ∉ k.ws) : look (k.app s) r = look s r := by
  unfold Stp.ws at hr
  cases r with
  | t d =>
    cases hd : k.o.dst with
    | none => simp [look, Stp.app, putT, hd]
    | some e =>
      rw [hd] at hr
      have : (d == e) = false := by simpa using fun q : d = e => hr (by simp [q])
      simp [look, Stp.app, putT, hd, this]
  | b n =>
    have hm : Res.b n ∉ wrIds k.r.wr := fun e => hr (by cases hd : k.o.dst <;> simp [e])
    simp only [look, Stp.app]
    exact congrArg _ ((updH_look k.r.wr s.2 s.2 n).2 hm)

/-- The state behind the first steps. -/
def sAt (s : PS) : List Stp → Nat → PS
  | _, 0 => s
  | [], _ => s
  | k :: ks, n + 1 => sAt (k.app s) ks n

theorem sAt_succ : ∀ (ks : List Stp) (s : PS) (i : Nat) (k : Stp), ks[i]? = some k → sAt s ks (i + 1) = k.app (sAt s ks i)
  | [], s, i, k, h => by simp at h
  | x :: xs, s, 0, k, h => by simp only [List.getElem?_cons_zero, Option.some.injEq] at h; subst h; cases xs <;> rfl
  | x :: xs, s, i + 1, k, h => by
    have := sAt_succ xs (x.app s) i k (by simpa using h)
    simpa [sAt] using this

/-- What nobody writes in between stays. -/
theorem sAt_stay (ks : List Stp) (s : PS) (r : Res) : ∀ (m i : Nat), (∀ k kk, i ≤ k → k < i + m → ks[k]? = some kk → r ∉ kk.ws) → i + m ≤ ks.length → look (sAt s ks (i + m)) r = look (sAt s ks i) r
  | 0, i, _, _ => rfl
  | m + 1, i, h, hl => by
    obtain ⟨k, hk⟩ : ∃ k, ks[i + m]? = some k := ⟨_, List.getElem?_eq_getElem (by omega)⟩
    rw [← Nat.add_assoc, sAt_succ ks s (i + m) k hk, app_out k _ (h (i + m) k (by omega) (by omega) hk)]
    exact sAt_stay ks s r m i (fun q kk h1 h2 => h q kk h1 (by omega)) (by omega)

theorem steps_spec {Γ : Gam} {T : TT} {n : Nat} {all : List Oper} : ∀ (os : List Oper) (idb : Nat) (s : PS) (ds ds' : Orc) (ks : List Stp) (s' : PS), steps Γ T n all idb os s ds = some (ks, s', ds') → AllEq (condsOf ks) →
    ks.length = os.length ∧ s' = sAt s ks ks.length ∧ ∀ i k, ks[i]? = some k → os[i]? = some k.o ∧ okDst n k.o.dst = true ∧ AllEq k.cs ∧ (stepR Γ T all (idb + 8 * i) k.o).run (sAt s ks i).1 (sAt s ks i).2 k.ds = some (k.r, k.ds', k.cs, k.fp)
  | [], idb, s, ds, ds', ks, s', he, hc => by
    simp only [steps, Option.some.injEq, Prod.mk.injEq] at he
    obtain ⟨rfl, rfl, rfl⟩ := he
    exact ⟨rfl, rfl, fun i k h => by simp at h⟩
  | o :: os, idb, s, ds, ds', ks, s', he, hc => by
    simp only [steps] at he
    split at he
    · cases he
    · rename_i r ds1 cs fp hrun
      cases hdst : okDst n o.dst with
      | false => rw [hdst] at he; cases he
      | true =>
        rw [hdst] at he
        simp only [cond_true] at he
        split at he
        · cases he
        · rename_i ks2 s2 ds2 hrest
          simp only [Option.some.injEq, Prod.mk.injEq] at he
          obtain ⟨rfl, rfl, rfl⟩ := he
          obtain ⟨hc1, hc2⟩ := AllEq.append hc
          obtain ⟨h1, h2, h3⟩ := steps_spec os (idb + 8) _ ds1 _ ks2 _ hrest hc2
          refine ⟨by simp [h1], by rw [h2]; rfl, fun i k hi => ?_⟩
          cases i with
          | zero =>
            simp only [List.getElem?_cons_zero, Option.some.injEq] at hi
            subst hi
            exact ⟨rfl, hdst, hc1, hrun⟩
          | succ i =>
            obtain ⟨a, b, c, d⟩ := h3 i k (by simpa using hi)
            refine ⟨by simpa using a, b, c, ?_⟩
            rw [show idb + 8 * (i + 1) = idb + 8 + 8 * i from by omega]
            exact d

/-! ## Edges -/

inductive Prec (ks : List Stp) : Nat → Nat → Prop
  | edge {j : Nat} {k : Stp} {e : Edge} (hk : ks[j]? = some k) (he : e ∈ k.o.after.toList) (hb : Region.binds .any e = true) : Prec ks e.on j
  | far {i j : Nat} {k : Stp} {e : Edge} (hk : ks[j]? = some k) (he : e ∈ k.o.after.toList) (hb : Region.binds .any e = true) (h : Prec ks i e.on) : Prec ks i j

theorem insN_mem {x y : Nat} {l : List Nat} (h : y ∈ insN x l) : y = x ∨ y ∈ l := by
  unfold insN at h
  rw [cond_eq_ite] at h
  split at h
  · exact .inr h
  · exact List.mem_cons.1 h
theorem uniN_mem {y : Nat} : ∀ {a b : List Nat}, y ∈ uniN a b → y ∈ a ∨ y ∈ b
  | [], b, h => .inr h
  | x :: xs, b, h => by
    rcases insN_mem h with rfl | h
    · exact .inl (List.mem_cons_self ..)
    · exact (uniN_mem h).imp (fun h => List.mem_cons_of_mem _ h) (fun h => h)

theorem preds_spec {ks : List Stp} {acc : List (List Nat)} (hacc : ∀ m l, lget acc m = some l → ∀ i ∈ l, Prec ks i m) {j : Nat} {k : Stp} (hk : ks[j]? = some k) : ∀ (es : List Edge), (∀ e ∈ es, e ∈ k.o.after.toList) → ∀ i ∈ predsOf acc es, Prec ks i j
  | [], _, i, hi => by simp [predsOf] at hi
  | e :: es, hes, i, hi => by
    simp only [predsOf, cond_eq_ite] at hi
    split at hi
    · rename_i hb
      rcases insN_mem hi with rfl | hi
      · exact .edge hk (hes e (by simp)) hb
      · rcases uniN_mem hi with hi | hi
        · cases hl : lget acc e.on with
          | none => rw [hl] at hi; simp at hi
          | some l => rw [hl] at hi; exact .far hk (hes e (by simp)) hb (hacc _ l hl i hi)
        · exact preds_spec hacc hk es (fun x hx => hes x (by simp [hx])) i hi
    · exact preds_spec hacc hk es (fun x hx => hes x (by simp [hx])) i hi

theorem free_spec {pre : List Nat} {k : Stp} : ∀ (i : Nat) (xs : List Stp), freeFrom pre k i xs = true → ∀ m x, xs[m]? = some x → conflicts x k = true → i + m ∈ pre
  | i, [], _, m, x, hx, _ => by simp at hx
  | i, y :: ys, hf, 0, x, hx, hc => by
    simp only [List.getElem?_cons_zero, Option.some.injEq] at hx
    subst hx
    simp only [freeFrom, Bool.and_eq_true, Bool.or_eq_true, natIn_iff, hc, Bool.not_true, Bool.false_eq_true, false_or] at hf
    exact hf.1
  | i, y :: ys, hf, m + 1, x, hx, hc => by
    simp only [freeFrom, Bool.and_eq_true] at hf
    have := free_spec (i + 1) ys hf.2 m x (by simpa using hx) hc
    rwa [show i + 1 + m = i + (m + 1) from by omega] at this

theorem edgesBack_spec {j : Nat} : ∀ (es : List Edge), edgesBack j es = true → ∀ e ∈ es, Region.binds .any e = true → e.on < j
  | [], _, e, he, _ => by simp at he
  | x :: xs, h, e, he, hb => by
    simp only [edgesBack, Bool.and_eq_true, Bool.or_eq_true, Bool.not_eq_true', Nat.blt_eq] at h
    rcases List.mem_cons.1 he with rfl | he
    · rcases h.1 with h1 | h1
      · rw [h1] at hb; cases hb
      · exact h1
    · exact edgesBack_spec xs h.2 e he hb

theorem order_spec {ks : List Stp} : ∀ (rest done : List Stp) (acc : List (List Nat)), ks = done ++ rest → acc.length = done.length → (∀ m l, lget acc m = some l → ∀ i ∈ l, Prec ks i m) → orderOk done acc rest = true →
    ∀ j k, done.length ≤ j → ks[j]? = some k → (∀ e ∈ k.o.after.toList, Region.binds .any e = true → e.on < j) ∧ ∀ i x, i < j → ks[i]? = some x → conflicts x k = true → Prec ks i j
  | [], done, acc, hks, _, _, _, j, k, hj, hk => by
    rw [hks, List.append_nil] at hk
    have := (List.getElem?_eq_some_iff.1 hk).1
    omega
  | y :: rest, done, acc, hks, hlen, hacc, ho, j, k, hj, hk => by
    simp only [orderOk, Bool.and_eq_true] at ho
    obtain ⟨⟨h1, h2⟩, h3⟩ := ho
    have hy : ks[done.length]? = some y := by rw [hks]; simp
    have hpre := preds_spec hacc hy y.o.after.toList (fun e he => he)
    by_cases q : j = done.length
    · subst q
      rw [hy] at hk
      cases hk
      refine ⟨edgesBack_spec _ h1, fun i x hi hx hc => ?_⟩
      have hx' : done[i]? = some x := by rw [hks, List.getElem?_append_left hi] at hx; exact hx
      have := free_spec 0 done h2 i x hx' hc
      rw [Nat.zero_add] at this
      exact hpre i this
    · refine order_spec rest (done ++ [y]) (acc ++ [predsOf acc y.o.after.toList]) (by rw [hks]; simp) (by simp [hlen]) ?_ h3 j k (by simp; omega) hk
      intro m l hl i hi
      rw [lget_eq] at hl
      by_cases q' : m < acc.length
      · rw [List.getElem?_append_left q'] at hl
        exact hacc m l (by rw [lget_eq]; exact hl) i hi
      · rw [List.getElem?_append_right (by omega)] at hl
        have hm : m - acc.length = 0 := by
          have := (List.getElem?_eq_some_iff.1 hl).1
          simp at this; omega
        rw [hm] at hl
        simp only [List.getElem?_cons_zero, Option.some.injEq] at hl
        subst hl
        have : m = done.length := by omega
        rw [this]
        exact hpre i hi

/-! ## Any order -/

structure Inv (s0 : PS) (ks : List Stp) (L : Nat → Prop) (s : PS) : Prop where
  closed : ∀ j k, ks[j]? = some k → L j → ∀ e ∈ k.o.after.toList, Region.binds .any e = true → L e.on
  val : ∀ r, (∃ i x, ks[i]? = some x ∧ L i ∧ r ∈ x.ws ∧ (∀ m y, ks[m]? = some y → L m → r ∈ y.ws → m ≤ i) ∧ look s r = look (sAt s0 ks (i + 1)) r) ∨ ((∀ m y, ks[m]? = some y → L m → r ∉ y.ws) ∧ look s r = look s0 r)

theorem Inv.prec {s0 s : PS} {ks : List Stp} {L : Nat → Prop} (h : Inv s0 ks L s) {i j : Nat} (hp : Prec ks i j) (hj : L j) : L i := by
  induction hp with
  | edge hk he hb => exact h.closed _ _ hk hj _ he hb
  | far hk he hb _ ih => exact ih (h.closed _ _ hk hj _ he hb)

theorem Prec.of_ready {ks : List Stp} {i j : Nat} (hp : Prec ks i j) {L : Nat → Prop} (hr : ∀ k, ks[j]? = some k → ∀ e ∈ k.o.after.toList, Region.binds .any e = true → L e.on) (hc : ∀ {i j}, Prec ks i j → L j → L i) : L i := by
  cases hp with
  | edge hk he hb => exact hr _ hk _ he hb
  | far hk he hb h => exact hc h (hr _ hk _ he hb)

theorem conf_ws {x y : Stp} {r : Res} (hx : r ∈ x.ws) (hy : r ∈ y.fp ∨ r ∈ y.ws) : conflicts x y = true := by
  unfold conflicts
  simp only [Bool.or_eq_true, meet_iff]
  rcases hy with hy | hy
  · exact .inl (.inl ⟨r, hx, hy⟩)
  · exact .inl (.inr ⟨r, hx, hy⟩)

theorem conf_fp {x y : Stp} {r : Res} (hx : r ∈ x.fp) (hy : r ∈ y.ws) : conflicts x y = true := by
  unfold conflicts
  simp only [Bool.or_eq_true, meet_iff]
  exact .inr ⟨r, hx, hy⟩

section
variable {ks : List Stp} {s0 s : PS} {L : Nat → Prop} (hord : ∀ j k, ks[j]? = some k → (∀ e ∈ k.o.after.toList, Region.binds .any e = true → e.on < j) ∧ ∀ i x, i < j → ks[i]? = some x → conflicts x k = true → Prec ks i j)
include hord

/-- What an operation that may come up reads is what it read in the order of the text. -/
theorem Inv.reads (h : Inv s0 ks L s) {j : Nat} {k : Stp} (hk : ks[j]? = some k) (hj : ¬ L j) (hr : ∀ e ∈ k.o.after.toList, Region.binds .any e = true → L e.on) : ∀ r ∈ k.fp, look (sAt s0 ks j) r = look s r := by
  intro r hrk
  have hlt : j < ks.length := (List.getElem?_eq_some_iff.1 hk).1
  have before : ∀ m y, m < j → ks[m]? = some y → r ∈ y.ws → L m := fun m y hm hy hry =>
    ((hord j k hk).2 m y hm hy (conf_ws hry (.inl hrk))).of_ready (fun k' hk' => by rw [hk] at hk'; cases hk'; exact hr) (fun hp => h.prec hp)
  rcases h.val r with ⟨i, x, hx, hi, hrx, hmax, he⟩ | ⟨hno, he⟩
  · have hij : i < j := by
      rcases Nat.lt_trichotomy i j with q | q | q
      · exact q
      · subst q; exact absurd hi hj
      · exact absurd (h.prec ((hord i x hx).2 j k q hk (conf_fp hrk hrx)) hi) hj
    rw [he]
    have := sAt_stay ks s0 r (j - (i + 1)) (i + 1) (fun m y h1 h2 hy hry => by have := hmax m y hy (before m y (by omega) hy hry) hry; omega) (by omega)
    rwa [show i + 1 + (j - (i + 1)) = j from by omega] at this
  · rw [he]
    have := sAt_stay ks s0 r j 0 (fun m y _ h2 hy hry => hno m y hy (before m y (by omega) hy hry) hry) (by omega)
    rw [Nat.zero_add] at this
    rw [this]
    cases ks <;> rfl

/-- It is carried out. -/
theorem Inv.next (h : Inv s0 ks L s) {j : Nat} {k : Stp} (hk : ks[j]? = some k) (hj : ¬ L j) (hr : ∀ e ∈ k.o.after.toList, Region.binds .any e = true → L e.on) : Inv s0 ks (fun i => L i ∨ i = j) (k.app s) := by
  refine ⟨fun i x hx hi e he hb => ?_, fun r => ?_⟩
  · rcases hi with hi | rfl
    · exact .inl (h.closed i x hx hi e he hb)
    · rw [hk] at hx; cases hx; exact .inl (hr e he hb)
  · by_cases q : r ∈ k.ws
    · refine .inl ⟨j, k, hk, .inr rfl, q, fun m y hy hm hry => ?_, ?_⟩
      · rcases hm with hm | rfl
        · rcases Nat.lt_or_ge j m with h' | h'
          · exact absurd (h.prec ((hord m y hy).2 j k h' hk (conf_ws q (.inr hry))) hm) hj
          · exact h'
        · exact Nat.le_refl _
      · rw [sAt_succ ks s0 j k hk]
        exact app_in k _ _ q
    · rw [app_out k s q]
      rcases h.val r with ⟨i, x, hx, hi, hrx, hmax, he⟩ | ⟨hno, he⟩
      · refine .inl ⟨i, x, hx, .inl hi, hrx, fun m y hy hm hry => ?_, he⟩
        rcases hm with hm | rfl
        · exact hmax m y hy hm hry
        · rw [hk] at hy; cases hy; exact absurd hry q
      · refine .inr ⟨fun m y hy hm hry => ?_, he⟩
        rcases hm with hm | rfl
        · exact hno m y hy hm hry
        · rw [hk] at hy; cases hy; exact absurd hry q

/-- All have come up. -/
theorem Inv.done (h : Inv s0 ks L s) (hall : ∀ i, i < ks.length → L i) : s = sAt s0 ks ks.length := by
  have key : ∀ r, look s r = look (sAt s0 ks ks.length) r := fun r => by
    rcases h.val r with ⟨i, x, hx, hi, hrx, hmax, he⟩ | ⟨hno, he⟩
    · have hlt : i < ks.length := (List.getElem?_eq_some_iff.1 hx).1
      rw [he]
      have := sAt_stay ks s0 r (ks.length - (i + 1)) (i + 1) (fun m y h1 h2 hy hry => by have := hmax m y hy (hall m (by omega)) hry; omega) (by omega)
      rw [show i + 1 + (ks.length - (i + 1)) = ks.length from by omega] at this
      exact this.symm
    · rw [he]
      have := sAt_stay ks s0 r ks.length 0 (fun m y _ h2 hy hry => hno m y hy (hall m (by omega)) hry) (by omega)
      rw [Nat.zero_add] at this
      rw [this]
      cases ks <;> rfl
  refine Prod.ext (funext fun t => ?_) (funext fun n => ?_)
  · have := key (.t t); simpa [look] using this
  · have := key (.b n); simpa [look] using this
end

section
variable {P : Program} {w0 : World} {X : Nat → Prop} {ar : Array Value} {c : Cx} {a : Act} {Γ : Gam} {T : TT} {n : Nat} {gs : List PV}

def lst (listed : Array Bool) (i : Nat) : Prop := listed.getD i false = true

theorem any_sound (hΓ : GamOK P Γ) (hT : TTOK P T) {ops : Array Oper} {Q : Exit → Act → World → Prop} {idb : Nat} {s0 : PS} {ds ds' : Orc} {ks : List Stp} {s' : PS} (he : steps Γ T n ops.toList idb ops.toList s0 ds = some (ks, s', ds')) (hc : AllEq (condsOf ks)) (ho : orderOk [] [] ks = true)
    (hq : ∀ c' a', Sim w0 X ar n ⟨s'.1, s'.2, idb + 8 * ops.size, gs⟩ c' a' → Q .normal a' c'.w) :
    ∀ (fuel : Nat) (listed : Array Bool) (s : PS) (c : Cx) (a : Act), listed.size = ops.size → listed.toList.count false = fuel → Inv s0 ks (lst listed) s → (∀ t, VSim c (s.1 t) (a.tmps.getD t undef)) → a.tmps.size = n → a.defers = [] → HSim w0 X s.2 c → c.ar = ar → Ghosts c ar gs →
      (∀ id, c.K id → id < idb ∨ ∃ i, lst listed i ∧ idb + 8 * i ≤ id ∧ id < idb + 8 * i + 8) → wpAny P .any ops Q fuel listed a c.w := by
  obtain ⟨hlen, hs', hspec⟩ := steps_spec ops.toList idb s0 ds ds' ks s' he hc
  have hlen' : ks.length = ops.size := by simpa using hlen
  have hord := fun j k (hk : ks[j]? = some k) => order_spec ks [] [] rfl rfl (fun m l hl => by simp [lget] at hl) ho j k (Nat.zero_le _) hk
  have fin : ∀ (listed : Array Bool) (s : PS) (c : Cx) (a : Act), listed.size = ops.size → (∀ i, i < ops.size → lst listed i) → Inv s0 ks (lst listed) s → (∀ t, VSim c (s.1 t) (a.tmps.getD t undef)) → a.tmps.size = n → a.defers = [] → HSim w0 X s.2 c → c.ar = ar → Ghosts c ar gs →
      (∀ id, c.K id → id < idb ∨ ∃ i, lst listed i ∧ idb + 8 * i ≤ id ∧ id < idb + 8 * i + 8) → Q .normal a c.w := by
    intro listed s c a hsz hall hinv ht hsize hdf hs har hgh hK
    have hd := hinv.done hord (fun i hi => hall i (by omega))
    rw [← hs'] at hd
    subst hd
    refine hq c a ⟨har, ht, hsize, hdf, hs, fun id hid => ?_, hgh⟩
    show id < idb + 8 * ops.size
    rcases hK id hid with h1 | ⟨i, hi, h1, h2⟩
    · omega
    · have : i < ops.size := by
        rcases Nat.lt_or_ge i listed.size with q | q
        · omega
        · simp [lst, Array.getElem?_eq_none q] at hi
      omega
  intro fuel
  induction fuel with
  | zero =>
    intro listed s c a hsz hcnt hinv ht hsize hdf hs har hgh hK
    have hall : ∀ i, i < ops.size → lst listed i := fun i hi => by
      have hi' : i < listed.size := by omega
      have hm : listed[i] ∈ listed.toList := by simp
      have : listed[i] ≠ false := fun e => by
        have := List.count_eq_zero.1 hcnt
        exact this (e ▸ hm)
      simpa [lst, hi'] using this
    refine ⟨?_, fin listed s c a hsz hall hinv ht hsize hdf hs har hgh hK⟩
    apply List.eq_nil_iff_forall_not_mem.2
    intro j hj
    obtain ⟨h1, o, hoj, _⟩ := mem_ready.1 hj
    have hj' := hall j (Array.getElem?_eq_some_iff.1 hoj).1
    have hlt : j < listed.size := by have := (Array.getElem?_eq_some_iff.1 hoj).1; omega
    simp [lst, hlt] at hj' h1
    rw [hj'] at h1; cases h1
  | succ fuel ih =>
    intro listed s c a hsz hcnt hinv ht hsize hdf hs har hgh hK
    refine ⟨fun hnil => ?_, fun j hj => ?_⟩
    · refine fin listed s c a hsz (fun i => ?_) hinv ht hsize hdf hs har hgh hK
      induction i using Nat.strongRecOn with
      | _ i ihi =>
        intro hi
        obtain ⟨k, hk⟩ : ∃ k, ks[i]? = some k := ⟨_, List.getElem?_eq_getElem (by omega)⟩
        have hnr : i ∉ Region.ready .any ops listed := by rw [hnil]; simp
        have hops : ops[i]? = some k.o := by have := (hspec i k hk).1; simpa using this
        have hlt : i < listed.size := by omega
        cases hl : listed[i] with
        | true => simp [lst, hlt, hl]
        | false =>
          exfalso
          refine hnr (mem_ready.2 ⟨by simp [hlt, hl], k.o, hops, fun e hee hb => ?_⟩)
          have hlt' := (hord i k hk).1 e (by simpa using hee) hb
          exact ihi e.on hlt' (by omega)
    · obtain ⟨hun, o, hops, hready⟩ := mem_ready.1 hj
      have hjlt : j < ops.size := (Array.getElem?_eq_some_iff.1 hops).1
      have hjl : j < listed.size := by omega
      obtain ⟨k, hk⟩ : ∃ k, ks[j]? = some k := ⟨_, List.getElem?_eq_getElem (by omega)⟩
      obtain ⟨hok, hdst, hcs, hrun⟩ := hspec j k hk
      have hko : o = k.o := by
        have : ops[j]? = some k.o := by simpa using hok
        rw [hops] at this; exact Option.some.inj this
      subst hko
      have hnl : ¬ lst listed j := by
        simp [hjl] at hun
        simp [lst, hjl, hun]
      have hr : ∀ e ∈ k.o.after.toList, Region.binds .any e = true → lst listed e.on := fun e he hb => hready e (by simpa using he) hb
      have hrun' := run_local (s' := s) hrun (hinv.reads hord hk hnl hr)
      have hd := does_of_run hrun' hcs
      refine stepR_sound hΓ hT hs ht (fun m h1 h2 hm => ?_) hops hd ?_
      · rcases hK m hm with h3 | ⟨i, hi, h3, h4⟩
        · omega
        · have : i = j := by omega
          subst this
          exact hnl hi
      · intro v c' e hv hh
        have hset : ∀ i, lst (listed.setIfInBounds j true) i ↔ (lst listed i ∨ i = j) := fun i => by
          by_cases q : i = j
          · subst q; simp [lst, hjl]
          · have : (listed.setIfInBounds j true).getD i false = listed.getD i false := getD_set_ne false (Ne.symm q)
            simp only [lst, this, q, or_false]
        have hinv' := hinv.next hord hk hnl hr
        refine ih (listed.setIfInBounds j true) (k.app s) c' (a.put k.o.dst v) (by simpa using hsz) ?_ ⟨fun i x hx hi ee hee hb => (hset _).2 (hinv'.closed i x hx ((hset i).1 hi) ee hee hb), fun r => ?_⟩ (put_sim e ht (by rw [hsize]; exact hdst) hv) (by rw [put_size]; exact hsize) (by rw [put_defers]; exact hdf) hh (e.ar.trans har) (hgh.ext e) ?_
        · have hl0 : listed.toList[j]? = some false := by simp [hjl] at hun; simp [hjl, hun]
          rw [Array.toList_setIfInBounds, List.count_set (by simpa using hjl)]
          have hl1 : listed.toList[j]'(by simpa using hjl) = false := by
            have := (List.getElem?_eq_some_iff.1 hl0).2
            exact this
          rw [hl1]
          simp
          simp at hcnt
          omega
        · rcases hinv'.val r with ⟨i, x, hx, hi, hrx, hmax, hee⟩ | ⟨hno, hee⟩
          · exact .inl ⟨i, x, hx, (hset i).2 hi, hrx, fun m y hy hm => hmax m y hy ((hset m).1 hm), hee⟩
          · exact .inr ⟨fun m y hy hm => hno m y hy ((hset m).1 hm), hee⟩
        · intro id hid
          rcases e.new id hid with h1 | h1
          · rcases hK id h1 with h2 | ⟨i, hi, h2, h3⟩
            · exact .inl h2
            · exact .inr ⟨i, (hset i).2 (.inl hi), h2, h3⟩
          · exact .inr ⟨j, (hset j).2 (.inr rfl), h1.1, by omega⟩

end
end Go.Proofs.Ytilfdpllleninaa
