/- The engine, part C: what an abstract value says of a value, what abstract blocks say of a heap; how both are kept. -/
import Derived.Test.YtilfdpllleninaaEngBa
namespace Go.Proofs.Ytilfdpllleninaa
set_option linter.unusedVariables false
set_option linter.unusedSimpArgs false

/-! ## Reading programs without oracles -/

def Does {α : Type} (tm : Nat → PV) (h : Nat → Option Blk) : Rd α → α → Prop
  | .ret a, b => a = b
  | .tmp t k, b => Does tm h (k (tm t)) b
  | .blk id k, b => Does tm h (k (h id)) b
  | .ask _ c k, b => Does tm h (k c) b
  | .fail, _ => False

/-- What decides is what the reader says, and goes the way that was taken. -/
def AllEq : Conds → Prop
  | [] => True
  | (a, e) :: r => a = e.2 ∧ AllEq r

theorem AllEq.append {a b : Conds} (h : AllEq (a ++ b)) : AllEq a ∧ AllEq b := by
  induction a with
  | nil => exact ⟨trivial, h⟩
  | cons x a ih => obtain ⟨h1, h2⟩ := h; exact ⟨⟨h1, (ih h2).1⟩, (ih h2).2⟩

/-- Every decision that is known is as told. -/
structure Orc.Fine (o : Orc) : Prop where
  ds : ∀ h d, some (h, d) ∈ o.ds → h = d
  memo : ∀ k h d, (k, (h, d)) ∈ o.memo → h = d

def Told (cs : Conds) : Prop := ∀ a h d, (a, (h, d)) ∈ cs → h = d

theorem recall_mem : ∀ {q : Option Nat} {m : List (Nat × (Bool × Bool))} {e : Bool × Bool}, recall q m = some e → ∃ k, (k, e) ∈ m
  | none, _, _, h => by simp [recall] at h
  | some _, [], _, h => by simp [recall] at h
  | some k, (n, e') :: r, e, h => by
    simp only [recall, cond_eq_ite] at h
    split at h
    · cases h; exact ⟨n, by simp⟩
    · obtain ⟨k', hk⟩ := recall_mem h; exact ⟨k', by simp [hk]⟩

theorem remember_mem {q : Option Nat} {m : List (Nat × (Bool × Bool))} {e x : Bool × Bool} {k : Nat} (h : (k, x) ∈ remember q e m) : x = e ∨ (k, x) ∈ m := by
  cases q with
  | none => exact .inr h
  | some n => simp only [remember, List.mem_cons, Prod.mk.injEq] at h; exact h.imp (fun a => a.2) (fun a => a)

theorem run_told {α : Type} {tm : Nat → PV} {h : Nat → Option Blk} {x : Rd α} : ∀ {o o' : Orc} {a : α} {cs : Conds} {fp : List Res}, x.run tm h o = some (a, o', cs, fp) → o.Fine → Told cs ∧ o'.Fine := by
  induction x with
  | ret b =>
    intro o o' a cs fp e ho
    simp only [Rd.run, Option.some.injEq, Prod.mk.injEq] at e
    obtain ⟨_, rfl, rfl, _⟩ := e
    exact ⟨(fun a h d hm => by cases hm), ho⟩
  | tmp t k ih =>
    intro o o' a cs fp e ho
    simp only [Rd.run] at e
    split at e
    · rename_i r; simp only [Option.some.injEq, Prod.mk.injEq] at e; obtain ⟨rfl, rfl, rfl, rfl⟩ := e; exact ih _ r ho
    · cases e
  | blk t k ih =>
    intro o o' a cs fp e ho
    simp only [Rd.run] at e
    split at e
    · rename_i r; simp only [Option.some.injEq, Prod.mk.injEq] at e; obtain ⟨rfl, rfl, rfl, rfl⟩ := e; exact ih _ r ho
    · cases e
  | ask q c k ih =>
    intro o o' a cs fp e ho
    simp only [Rd.run] at e
    split at e
    · rename_i h' d hq
      split at e
      · rename_i r
        simp only [Option.some.injEq, Prod.mk.injEq] at e
        obtain ⟨rfl, rfl, rfl, rfl⟩ := e
        obtain ⟨h1, h2⟩ := ih _ r ho
        obtain ⟨n, hn⟩ := recall_mem hq
        refine ⟨fun a h'' d' hm => ?_, h2⟩
        rcases List.mem_cons.1 hm with hm | hm
        · simp only [Prod.mk.injEq] at hm; obtain ⟨_, rfl, rfl⟩ := hm; exact ho.memo n _ _ hn
        · exact h1 a _ _ hm
      · cases e
    · split at e
      · exact ih _ e ho
      · rename_i ds hds
        exact ih _ e ⟨fun h d hm => ho.ds h d (by rw [hds]; simp [hm]), ho.memo⟩
      · rename_i h' d ds hds
        split at e
        · rename_i r
          simp only [Option.some.injEq, Prod.mk.injEq] at e
          obtain ⟨rfl, rfl, rfl, rfl⟩ := e
          have hd := ho.ds h' d (by rw [hds]; simp)
          obtain ⟨h1, h2⟩ := ih _ r ⟨fun h d hm => ho.ds h d (by rw [hds]; simp [hm]), fun k h'' d' hm => by
            rcases remember_mem hm with e | hm
            · simp only [Prod.mk.injEq] at e; obtain ⟨rfl, rfl⟩ := e; exact hd
            · exact ho.memo k _ _ hm⟩
          refine ⟨fun a h'' d' hm => ?_, h2⟩
          rcases List.mem_cons.1 hm with hm | hm
          · simp only [Prod.mk.injEq] at hm; obtain ⟨_, rfl, rfl⟩ := hm; exact hd
          · exact h1 a _ _ hm
        · cases e
  | fail => intro o o' a cs fp e; simp [Rd.run] at e

section
variable {tm : Nat → PV} {h : Nat → Option Blk}

theorem does_of_run {α : Type} {x : Rd α} {a : α} : ∀ {o o' : Orc} {cs : Conds} {fp : List Res}, x.run tm h o = some (a, o', cs, fp) → AllEq cs → Does tm h x a := by
  induction x with
  | ret b =>
    intro o o' cs fp e _
    simp only [Rd.run, Option.some.injEq, Prod.mk.injEq] at e
    exact e.1
  | tmp t k ih =>
    intro o o' cs fp e hc
    simp only [Rd.run] at e
    split at e
    · rename_i r; simp only [Option.some.injEq, Prod.mk.injEq] at e; obtain ⟨rfl, rfl, rfl, rfl⟩ := e; exact ih _ r hc
    · cases e
  | blk t k ih =>
    intro o o' cs fp e hc
    simp only [Rd.run] at e
    split at e
    · rename_i r; simp only [Option.some.injEq, Prod.mk.injEq] at e; obtain ⟨rfl, rfl, rfl, rfl⟩ := e; exact ih _ r hc
    · cases e
  | ask q c k ih =>
    intro o o' cs fp e hc
    simp only [Rd.run] at e
    split at e
    · split at e
      · rename_i r
        simp only [Option.some.injEq, Prod.mk.injEq] at e
        obtain ⟨rfl, rfl, rfl, rfl⟩ := e
        obtain ⟨h1, h2⟩ := hc
        have := ih _ r h2
        show Does tm h (k c) _
        rw [h1]
        exact this
      · cases e
    · split at e
      · exact ih _ e hc
      · exact ih _ e hc
      · split at e
        · rename_i r
          simp only [Option.some.injEq, Prod.mk.injEq] at e
          obtain ⟨rfl, rfl, rfl, rfl⟩ := e
          obtain ⟨h1, h2⟩ := hc
          have := ih _ r h2
          show Does tm h (k c) _
          rw [h1]
          exact this
        · cases e
  | fail => intro o o' cs fp e; simp [Rd.run] at e

theorem does_bind {α β : Type} {x : Rd α} {f : α → Rd β} {b : β} : Does tm h (x >>= f) b ↔ ∃ a, Does tm h x a ∧ Does tm h (f a) b := by
  show Does tm h (x.bind f) b ↔ _
  induction x with
  | ret a => exact ⟨fun e => ⟨a, rfl, e⟩, fun ⟨a', e, e'⟩ => by cases e; exact e'⟩
  | tmp t k ih => exact ih _
  | blk t k ih => exact ih _
  | ask q c k ih => exact ih _
  | fail => exact ⟨fun e => e.elim, fun ⟨_, e, _⟩ => e.elim⟩

@[simp] theorem does_ret {α : Type} {a b : α} : Does tm h (Rd.ret a) b ↔ a = b := Iff.rfl
@[simp] theorem does_pure {α : Type} {a b : α} : Does tm h (pure a) b ↔ a = b := Iff.rfl
@[simp] theorem does_fail {α : Type} {b : α} : Does tm h Rd.fail b ↔ False := Iff.rfl
@[simp] theorem does_lift {α : Type} {o : Option α} {b : α} : Does tm h (lift o) b ↔ o = some b := by
  cases o with
  | none => exact ⟨fun e => e.elim, fun e => by cases e⟩
  | some a => exact ⟨fun e => congrArg some e, fun e => Option.some.inj e⟩
@[simp] theorem does_need {c : Bool} {u : Unit} : Does tm h (need c) u ↔ c = true := by
  cases c
  · exact ⟨fun e => e.elim, fun e => by cases e⟩
  · exact ⟨fun _ => rfl, fun _ => rfl⟩
@[simp] theorem does_ask {q : Option Nat} {c b : Bool} : Does tm h (rask q c) b ↔ c = b := Iff.rfl
@[simp] theorem does_tmp {t : Nat} {v : PV} : Does tm h (rtmp t) v ↔ tm t = v := Iff.rfl
@[simp] theorem does_blk {t : Nat} {v : Option Blk} : Does tm h (rblk t) v ↔ h t = v := Iff.rfl
@[simp] theorem does_ti {T : TT} {t : TypeId} {i : TI} : Does tm h (ti T t) i ↔ T t = some i := does_lift
@[simp] theorem does_okv {v : PV} {r : OR} : Does tm h (okv v) r ↔ r = ⟨v, []⟩ := ⟨fun e => e.symm, fun e => e.symm⟩
end

/-! ## Lists side by side -/

def All2 {α β : Type} (R : α → β → Prop) : List α → List β → Prop
  | [], [] => True
  | x :: xs, y :: ys => R x y ∧ All2 R xs ys
  | _, _ => False

section
variable {α β : Type} {R : α → β → Prop}
theorem All2.length : ∀ {xs : List α} {ys : List β}, All2 R xs ys → xs.length = ys.length
  | [], [], _ => rfl
  | _ :: _, _ :: _, h => congrArg (· + 1) (All2.length h.2)
theorem All2.mono {R' : α → β → Prop} (hr : ∀ x y, R x y → R' x y) : ∀ {xs : List α} {ys : List β}, All2 R xs ys → All2 R' xs ys
  | [], [], _ => trivial
  | _ :: _, _ :: _, h => ⟨hr _ _ h.1, All2.mono hr h.2⟩
theorem All2.append : ∀ {xs xs' : List α} {ys ys' : List β}, All2 R xs ys → All2 R xs' ys' → All2 R (xs ++ xs') (ys ++ ys')
  | [], _, [], _, _, h => h
  | _ :: _, _, _ :: _, _, h, h' => ⟨h.1, All2.append h.2 h'⟩
theorem All2.take : ∀ (n : Nat) {xs : List α} {ys : List β}, All2 R xs ys → All2 R (xs.take n) (ys.take n)
  | 0, _, _, _ => by simp [All2]
  | _ + 1, [], [], _ => trivial
  | n + 1, _ :: _, _ :: _, h => ⟨h.1, All2.take n h.2⟩
theorem All2.drop : ∀ (n : Nat) {xs : List α} {ys : List β}, All2 R xs ys → All2 R (xs.drop n) (ys.drop n)
  | 0, _, _, h => h
  | _ + 1, [], [], _ => trivial
  | n + 1, _ :: _, _ :: _, h => All2.drop n h.2
theorem All2.get : ∀ {xs : List α} {ys : List β} (n : Nat) {x : α}, All2 R xs ys → lget xs n = some x → ∃ y, ys[n]? = some y ∧ R x y
  | [], [], _, _, _, e => by simp [lget] at e
  | _ :: _, y :: _, 0, _, h, e => by simp only [lget, Option.some.injEq] at e; subst e; exact ⟨y, rfl, h.1⟩
  | _ :: _, _ :: _, n + 1, _, h, e => by
    obtain ⟨y, hy, hr⟩ := All2.get n h.2 e
    exact ⟨y, by simpa using hy, hr⟩
end

/-! ## Values -/

structure Cx where
  w : World
  /-- blocks that aren't written any more -/
  pr : Nat → Prop
  /-- where a box lies; a slice's header -/
  φ : Nat → Value
  K : Nat → Prop
  ar : Array Value

def CellsAt (w : World) (b off : Nat) (vs : List Value) : Prop := ∀ j u, vs[j]? = some u → w.cell? ⟨b, off + j, none⟩ = some u

def SSim : PV → Value → Prop
  | .bool b, v => v = .bool b
  | .int k n, v => v = .int k n
  | .flt k x, v => ∃ b, v = .float k b ∧ canon k b = x
  | .cplx k x y, v => ∃ a b, v = .complex k a b ∧ canon k a = x ∧ canon k b = y
  | .str s, v => ∃ ba : ByteArray, v = .string ba ∧ ba.data.toList = s
  | _, _ => False

def flat (c : UC) : List c.T → List PV
  | [] => []
  | x :: xs => c.enc x ++ flat c xs

def ViewAt (w : World) (pr : Nat → Prop) (c : UC) (xs : List c.T) (a : Option Addr) : Prop :=
  xs ≠ [] → ∃ b off, a = some ⟨b, off, none⟩ ∧ pr b ∧ ∃ vs, CellsAt w b off vs ∧ All2 SSim (flat c xs) vs

mutual
def VSim (c : Cx) : PV → Value → Prop
  | .bool b, v => v = .bool b
  | .boolK b, v => v = .bool b
  | .int k n, v => v = .int k n
  | .flt k x, v => ∃ b, v = .float k b ∧ canon k b = x
  | .cplx k x y, v => ∃ a b, v = .complex k a b ∧ canon k a = x ∧ canon k b = y
  | .str s, v => ∃ ba : ByteArray, v = .string ba ∧ ba.data.toList = s
  | .nilp, v => v = .pointer none
  | .ptr id j, v => c.K id ∧ ∃ b, c.φ id = .pointer (some ⟨b, 0, none⟩) ∧ v = .pointer (some ⟨b, j, none⟩)
  | .eptr id sz i j, v => c.K id ∧ ∃ b l m, c.φ id = .slice (some ⟨b, 0, none⟩) l m ∧ v = .pointer (some ⟨b, i * sz + j, none⟩)
  | .vcell cs j, v => ∃ b off vs, v = .pointer (some ⟨b, off + j, none⟩) ∧ c.pr b ∧ CellsAt c.w b off vs ∧ VSims c cs vs
  | .agg cs, v => ∃ vs : Array Value, v = .agg vs ∧ VSims c cs vs.toList
  | .tup cs, v => ∃ vs : Array Value, v = .tuple vs ∧ VSims c cs vs.toList
  | .nils, v => v = .slice none 0 0
  | .own id, v => c.K id ∧ v = c.φ id ∧ ∃ a l m, v = .slice a l m
  | .osub id sz lo n, v => c.K id ∧ ∃ a m, v = .slice a n m ∧ n ≤ m ∧ (n ≠ 0 → ∃ b l m, c.φ id = .slice (some ⟨b, 0, none⟩) l m ∧ a = some ⟨b, lo * sz, none⟩) ∧ ∃ a' l' m', c.φ id = .slice a' l' m' ∧ lo + n ≤ l' ∧ (lo = 0 → a = a' ∧ m = m')
  | .asl id n, v => c.K id ∧ ∃ b, c.φ id = .pointer (some ⟨b, 0, none⟩) ∧ v = .slice (some ⟨b, 0, none⟩) n n
  | .vslc tag u xs, v => (∀ i, tag = i + 1 → c.ar[i]? = some v) ∧ ∃ a m, v = .slice a xs.length m ∧ xs.length ≤ m ∧ ViewAt c.w c.pr u xs a
  | .func fn f cp, v => ∃ f' c' : Array Value, v = .func fn f' c' ∧ VSims c f f'.toList ∧ VSims c cp c'.toList
  | .nilf, v => v = .nilFunc
  | .iface t p, v => ∃ x, v = .iface t x ∧ VSim c p x
  | .nili, v => v = .nilIface
  | .nanb, v => ∃ n : Nat, v = .int .u64 (n : Int) ∧ isNaN .f64 n = true
  | .lst cs, v => ∃ b vs, v = .slice (some ⟨b, 0, none⟩) cs.length cs.length ∧ c.pr b ∧ CellsAt c.w b 0 vs ∧ VSims c cs vs
  | .junk, _ => True
def VSims (c : Cx) : List PV → List Value → Prop
  | [], [] => True
  | p :: ps, v :: vs => VSim c p v ∧ VSims c ps vs
  | _, _ => False
end

theorem VSims_iff (c : Cx) : ∀ (ps : List PV) (vs : List Value), VSims c ps vs ↔ All2 (VSim c) ps vs
  | [], [] => by simp [VSims, All2]
  | [], _ :: _ => by simp [VSims, All2]
  | _ :: _, [] => by simp [VSims, All2]
  | p :: ps, v :: vs => by simp [VSims, All2, VSims_iff c ps vs]

theorem VSim.unK {c : Cx} {p : PV} {v : Value} (h : VSim c p v) : VSim c p.unK v := by
  cases p <;> simp only [PV.unK, VSim] at h ⊢ <;> exact h

theorem VSim.of_S {c : Cx} {p : PV} {v : Value} (h : SSim p v) : VSim c p v := by
  cases p <;> simp_all [SSim, VSim]

theorem VSims.of_S {c : Cx} {ps : List PV} {vs : List Value} (h : All2 SSim ps vs) : VSims c ps vs :=
  (VSims_iff c ps vs).2 (h.mono fun _ _ => VSim.of_S)

/-! ## Steps -/

structure Ext (N : Nat → Prop) (c c' : Cx) : Prop where
  ids : ∀ id, c.K id → c'.K id ∧ c'.φ id = c.φ id
  new : ∀ id, c'.K id → c.K id ∨ N id
  pr : ∀ n, c.pr n → c'.pr n ∧ c'.w.heap[n]? = c.w.heap[n]?
  ar : c'.ar = c.ar

theorem Ext.refl (N : Nat → Prop) (c : Cx) : Ext N c c := ⟨fun _ h => ⟨h, rfl⟩, fun _ h => .inl h, fun _ h => ⟨h, rfl⟩, rfl⟩

theorem Ext.trans {N : Nat → Prop} {a b c : Cx} (h : Ext N a b) (k : Ext N b c) : Ext N a c :=
  ⟨fun id hi => ⟨(k.ids id (h.ids id hi).1).1, ((k.ids id (h.ids id hi).1).2).trans (h.ids id hi).2⟩,
   fun id hi => (k.new id hi).elim (h.new id) .inr,
   fun n hn => ⟨(k.pr n (h.pr n hn).1).1, ((k.pr n (h.pr n hn).1).2).trans (h.pr n hn).2⟩, k.ar.trans h.ar⟩

theorem Ext.mono {N N' : Nat → Prop} {a b : Cx} (h : Ext N a b) (hn : ∀ n, N n → N' n) : Ext N' a b :=
  ⟨h.ids, fun n hi => (h.new n hi).imp (fun a => a) (hn n), h.pr, h.ar⟩

theorem CellsAt.ext {w w' : World} {b off : Nat} {vs : List Value} (h : CellsAt w b off vs) (e : w'.heap[b]? = w.heap[b]?) : CellsAt w' b off vs :=
  fun j u hu => (World.cell?_of_block (a := ⟨b, off + j, none⟩) e).trans (h j u hu)

theorem ViewAt.ext {w w' : World} {pr pr' : Nat → Prop} {u : UC} {xs : List u.T} {a : Option Addr} (h : ViewAt w pr u xs a) (hp : ∀ n, pr n → pr' n ∧ w'.heap[n]? = w.heap[n]?) : ViewAt w' pr' u xs a := by
  intro hx
  obtain ⟨b, off, ha, hb, vs, hc, hs⟩ := h hx
  exact ⟨b, off, ha, (hp b hb).1, vs, hc.ext (hp b hb).2, hs⟩

mutual
theorem VSim.ext {N : Nat → Prop} {c c' : Cx} (e : Ext N c c') : ∀ {p : PV} {v : Value}, VSim c p v → VSim c' p v
  | .bool _, _, h => by simp only [VSim] at h ⊢; exact h
  | .boolK _, _, h => by simp only [VSim] at h ⊢; exact h
  | .int _ _, _, h => by simp only [VSim] at h ⊢; exact h
  | .flt _ _, _, h => by simp only [VSim] at h ⊢; exact h
  | .cplx _ _ _, _, h => by simp only [VSim] at h ⊢; exact h
  | .str _, _, h => by simp only [VSim] at h ⊢; exact h
  | .nilp, _, h => by simp only [VSim] at h ⊢; exact h
  | .ptr id j, v, h => by
    simp only [VSim] at h ⊢
    obtain ⟨hk, h⟩ := h
    exact ⟨(e.ids id hk).1, by rw [(e.ids id hk).2]; exact h⟩
  | .eptr id sz i j, v, h => by
    simp only [VSim] at h ⊢
    obtain ⟨hk, h⟩ := h
    exact ⟨(e.ids id hk).1, by rw [(e.ids id hk).2]; exact h⟩
  | .vcell cs j, v, h => by
    simp only [VSim] at h ⊢
    obtain ⟨b, off, vs, hv, hb, hc, hs⟩ := h
    exact ⟨b, off, vs, hv, (e.pr b hb).1, hc.ext (e.pr b hb).2, VSims.ext e hs⟩
  | .agg cs, v, h => by
    simp only [VSim] at h ⊢
    obtain ⟨vs, hv, hs⟩ := h
    exact ⟨vs, hv, VSims.ext e hs⟩
  | .tup cs, v, h => by
    simp only [VSim] at h ⊢
    obtain ⟨vs, hv, hs⟩ := h
    exact ⟨vs, hv, VSims.ext e hs⟩
  | .nils, _, h => by simp only [VSim] at h ⊢; exact h
  | .own id, v, h => by
    simp only [VSim] at h ⊢
    obtain ⟨hk, h⟩ := h
    exact ⟨(e.ids id hk).1, by rw [(e.ids id hk).2]; exact h⟩
  | .osub id sz lo n, v, h => by
    simp only [VSim] at h ⊢
    obtain ⟨hk, h⟩ := h
    exact ⟨(e.ids id hk).1, by rw [(e.ids id hk).2]; exact h⟩
  | .asl id n, v, h => by
    simp only [VSim] at h ⊢
    obtain ⟨hk, h⟩ := h
    exact ⟨(e.ids id hk).1, by rw [(e.ids id hk).2]; exact h⟩
  | .vslc tag u xs, v, h => by
    simp only [VSim] at h ⊢
    obtain ⟨ht, a, m, hv, hm, hw⟩ := h
    exact ⟨by rw [e.ar]; exact ht, a, m, hv, hm, hw.ext e.pr⟩
  | .func fn f cp, v, h => by
    simp only [VSim] at h ⊢
    obtain ⟨f', c', hv, h1, h2⟩ := h
    exact ⟨f', c', hv, VSims.ext e h1, VSims.ext e h2⟩
  | .nilf, _, h => by simp only [VSim] at h ⊢; exact h
  | .iface t p, v, h => by
    simp only [VSim] at h ⊢
    obtain ⟨x, hv, h1⟩ := h
    exact ⟨x, hv, VSim.ext e h1⟩
  | .nili, _, h => by simp only [VSim] at h ⊢; exact h
  | .nanb, _, h => by simp only [VSim] at h ⊢; exact h
  | .lst cs, v, h => by
    simp only [VSim] at h ⊢
    obtain ⟨b, vs, hv, hb, hc, hs⟩ := h
    exact ⟨b, vs, hv, (e.pr b hb).1, hc.ext (e.pr b hb).2, VSims.ext e hs⟩
  | .junk, _, _ => by simp only [VSim]
theorem VSims.ext {N : Nat → Prop} {c c' : Cx} (e : Ext N c c') : ∀ {ps : List PV} {vs : List Value}, VSims c ps vs → VSims c' ps vs
  | [], [], _ => by simp only [VSims]
  | [], _ :: _, h => by simp [VSims] at h
  | _ :: _, [], h => by simp [VSims] at h
  | p :: ps, v :: vs, h => by
    simp only [VSims] at h ⊢
    exact ⟨VSim.ext e h.1, VSims.ext e h.2⟩
end

/-! ## Blocks -/

def blkOf : Value → Option Nat
  | .pointer (some a) => some a.block
  | .slice (some a) _ _ => some a.block
  | _ => none

/-- A row of n cells is not frozen, or frozen behind its end. -/
def FzOK (fz : Nat × Nat) (n : Nat) : Prop := fz = (0, 0) ∨ fz = (n, n + 1)

theorem FzOK.not {fz : Nat × Nat} {n j : Nat} (h : FzOK fz n) (hj : j < n) : (decide (fz.1 ≤ j) && decide (j < fz.2)) = false := by
  rcases h with rfl | rfl
  · simp
  · have : ¬ n ≤ j := by omega
    simp [this]

theorem frozen_not {w : World} {g j : Nat} {cur : Array Value} {e : TypeId} {fz : Nat × Nat} (hg : w.heap[g]? = some (.cells cur e fz)) (hf : FzOK fz cur.size) (hj : j < cur.size) : w.frozen? ⟨g, j, none⟩ = false := by
  obtain ⟨lo, hi⟩ := fz
  have := hf.not hj
  simp only [World.frozen?, hg]
  exact this

/-- A slice of the call's own: its row, whose first cells it has. -/
def OwnsG (w : World) (e : TypeId) (size : Nat) (v : Value) (n : Nat) (xs : List Value) : Prop :=
  xs.length = n * size ∧
  ((v = .slice none 0 0 ∧ n = 0) ∨
   ∃ g cap cur fz, v = .slice (some ⟨g, 0, none⟩) n cap ∧ w.heap[g]? = some (.cells cur e fz) ∧ FzOK fz cur.size ∧ n ≤ cap ∧ cap ≤ maxLen ∧ cur.size = cap * size ∧ cur.toList.take (n * size) = xs)

theorem OwnsG.of {w : World} {e : TypeId} {size : Nat} {v : Value} {n : Nat} {xs : List Value} (h : w.ownsRow 0 e size v n xs) : OwnsG w e size v n xs := by
  refine ⟨h.1, ?_⟩
  rcases h.2 with hn | ⟨g, cap, cur, hv, hb, hg, rest⟩
  · exact .inl hn
  · exact .inr ⟨g, cap, cur, (0, 0), hv, hg, .inl rfl, rest⟩

def BSim (c : Cx) (id : Nat) : Blk → Prop
  | .cells cs => ∃ b arr e, c.φ id = .pointer (some ⟨b, 0, none⟩) ∧ c.w.heap[b]? = some (.cells arr e (0, 0)) ∧ VSims c cs arr.toList
  | .typed e u xs => ∃ vs, OwnsG c.w e u.size (c.φ id) xs.length vs ∧ All2 SSim (flat u xs) vs

structure HSim (w0 : World) (X : Nat → Prop) (h : Nat → Option Blk) (c : Cx) : Prop where
  blk : ∀ id b, h id = some b → c.K id ∧ BSim c id b
  lo : ∀ id b n, h id = some b → blkOf (c.φ id) = some n → (w0.heap.size ≤ n ∨ X n) ∧ ¬ c.pr n
  inj : ∀ i j bi bj n, h i = some bi → h j = some bj → blkOf (c.φ i) = some n → blkOf (c.φ j) = some n → i = j
  fr : ∀ n, n < w0.heap.size → ¬ X n → c.w.heap[n]? = w0.heap[n]?
  os : c.w.os = w0.os
  tape : c.w.tape = w0.tape
  output : c.w.output = w0.output
  sz : w0.heap.size ≤ c.w.heap.size
  prlt : ∀ n, c.pr n → n < c.w.heap.size
  iv : IvW w0 ∧ ∀ n, IvD n → n < w0.heap.size ∧ ¬ X n

/-- What is known of the world at a call's begin. -/
def IvOK (w : World) : Prop := IvW w ∧ ∀ n, IvD n → n < w.heap.size

theorem HSim.ivOK {w0 : World} {X : Nat → Prop} {h : Nat → Option Blk} {c : Cx} (hs : HSim w0 X h c) : IvOK c.w :=
  ⟨ivW_closed hs.iv.1 fun n hn => hs.fr n (hs.iv.2 n hn).1 (hs.iv.2 n hn).2, fun n hn => Nat.lt_of_lt_of_le (hs.iv.2 n hn).1 hs.sz⟩

def updH (h : Nat → Option Blk) : List (Nat × Option Blk) → Nat → Option Blk
  | [] => h
  | (i, b) :: r => updH (fun n => bif n == i then b else h n) r

theorem BSim.lt {c : Cx} {id n : Nat} {b : Blk} (h : BSim c id b) (hn : blkOf (c.φ id) = some n) : n < c.w.heap.size := by
  cases b with
  | cells cs =>
    obtain ⟨b, arr, e, hf, hb, _⟩ := h
    rw [hf] at hn
    simp only [blkOf, Option.some.injEq] at hn
    subst hn
    exact (Array.getElem?_eq_some_iff.1 hb).1
  | typed e u xs =>
    obtain ⟨vs, ho, _⟩ := h
    rcases ho.2 with ⟨hv, _⟩ | ⟨g, cap, cur, fz, hv, hg, _⟩
    · rw [hv] at hn; simp [blkOf] at hn
    · rw [hv] at hn
      simp only [blkOf, Option.some.injEq] at hn
      subst hn
      exact (Array.getElem?_eq_some_iff.1 hg).1

theorem ownsRow_heap {w w' : World} {e : TypeId} {s : Nat} {v : Value} {n : Nat} {vs : List Value} (h : OwnsG w e s v n vs) (hk : ∀ b, blkOf v = some b → w'.heap[b]? = w.heap[b]?) : OwnsG w' e s v n vs := by
  refine ⟨h.1, ?_⟩
  rcases h.2 with hn | ⟨g, cap, cur, fz, hv, hg, rest⟩
  · exact .inl hn
  · exact .inr ⟨g, cap, cur, fz, hv, by rw [hk g (by rw [hv]; rfl)]; exact hg, rest⟩

/-- A block that nobody has written is what it was. -/
theorem BSim.keep {N : Nat → Prop} {c c' : Cx} (e : Ext N c c') {id : Nat} {b : Blk} (hk : c.K id) (h : BSim c id b) (hh : ∀ n, blkOf (c.φ id) = some n → c'.w.heap[n]? = c.w.heap[n]?) : BSim c' id b := by
  cases b with
  | cells cs =>
    obtain ⟨b, arr, t, hf, hb, hs⟩ := h
    refine ⟨b, arr, t, by rw [(e.ids id hk).2]; exact hf, ?_, hs.ext e⟩
    rw [hh b (by rw [hf]; rfl)]
    exact hb
  | typed t u xs =>
    obtain ⟨vs, ho, hs⟩ := h
    refine ⟨vs, ?_, hs⟩
    rw [(e.ids id hk).2]
    exact ownsRow_heap ho hh

/-- Nothing is made and nothing written. -/
theorem HSim.same {w0 : World} {X : Nat → Prop} {h : Nat → Option Blk} {c : Cx} (hs : HSim w0 X h c) {w' : World} (hw : w' = c.w ∨ w' = c.w.drew) :
    HSim w0 X h { c with w := w' } ∧ ∀ N, Ext N c { c with w := w' } := by
  have hh : w'.heap = c.w.heap := by rcases hw with rfl | rfl <;> rfl
  have e : ∀ N, Ext N c { c with w := w' } := fun N => ⟨fun _ h => ⟨h, rfl⟩, fun _ h => .inl h, fun n hn => ⟨hn, by simp [hh]⟩, rfl⟩
  refine ⟨⟨fun id b hb => ⟨(hs.blk id b hb).1, (hs.blk id b hb).2.keep (e fun _ => False) (hs.blk id b hb).1 fun n _ => by simp [hh]⟩, hs.lo, hs.inj, fun n hn hx => ?_, ?_, ?_, ?_, ?_, ?_, hs.iv⟩, e⟩
  · simp only [hh]; exact hs.fr n hn hx
  · rcases hw with rfl | rfl <;> exact hs.os
  · rcases hw with rfl | rfl <;> exact hs.tape
  · rcases hw with rfl | rfl <;> exact hs.output
  · simp only [hh]; exact hs.sz
  · simp only [hh]; exact hs.prlt

/-- A new block. -/
theorem HSim.made {w0 : World} {X : Nat → Prop} {h : Nat → Option Blk} {c : Cx} (hs : HSim w0 X h c) (id : Nat) (hid : ¬ c.K id) (w1 w' : World) (o : Obj)
    (hw1 : w1 = c.w ∨ w1 = c.w.drew) (hw : w' = w1.alloc o) (v : Value) (hv : blkOf v = some c.w.heap.size) (b : Blk)
    (hb : ∀ c' : Cx, c'.w = w' → c'.φ id = v → (∀ N, N id → Ext N c c') → BSim c' id b) :
    ∃ c' : Cx, c'.w = w' ∧ c'.φ id = v ∧ c'.K id ∧ (∀ N, N id → Ext N c c') ∧ HSim w0 X (updH h [(id, some b)]) c' := by
  have hh1 : w1.heap = c.w.heap := by rcases hw1 with rfl | rfl <;> rfl
  have hold : ∀ n, n < c.w.heap.size → w'.heap[n]? = c.w.heap[n]? := fun n hn => by
    rw [hw, heap_alloc_old _ _ _ (by rw [hh1]; exact hn), hh1]
  have hsz : w'.heap.size = c.w.heap.size + 1 := by rw [hw, World.size_alloc, hh1]
  let c' : Cx := { w := w', pr := c.pr, φ := fun n => if n = id then v else c.φ n, K := fun n => c.K n ∨ n = id, ar := c.ar }
  have hne : ∀ n, c.K n → n ≠ id := fun n hn e => hid (e ▸ hn)
  have e : ∀ N, N id → Ext N c c' := fun N hN => ⟨fun n hn => ⟨.inl hn, if_neg (hne n hn)⟩, fun n hn => hn.imp (fun a => a) (fun a => by rw [a]; exact hN), fun n hn => ⟨hn, hold n (hs.prlt n hn)⟩, rfl⟩
  have hφ : c'.φ id = v := if_pos rfl
  refine ⟨c', rfl, hφ, .inr rfl, e, ?_⟩
  have look : ∀ n b', updH h [(id, some b)] n = some b' → (n = id ∧ b' = b) ∨ (n ≠ id ∧ h n = some b') := fun n b' hn => by
    simp only [updH, cond_eq_ite, beq_iff_eq] at hn
    by_cases q : n = id
    · rw [if_pos q] at hn; exact .inl ⟨q, (Option.some.inj hn).symm⟩
    · rw [if_neg q] at hn; exact .inr ⟨q, hn⟩
  refine ⟨fun n b' hn => ?_, fun n b' m hn hm => ?_, fun i j bi bj n hi hj hbi hbj => ?_, fun n hn hx => ?_, ?_, ?_, ?_, ?_, fun n hn => ?_, hs.iv⟩
  · rcases look n b' hn with ⟨rfl, rfl⟩ | ⟨q, hn⟩
    · exact ⟨.inr rfl, hb c' rfl hφ e⟩
    · have hk := hs.blk n b' hn
      exact ⟨.inl hk.1, hk.2.keep (e (fun _ => True) trivial) hk.1 fun m hm => hold m (hk.2.lt hm)⟩
  · rcases look n b' hn with ⟨rfl, rfl⟩ | ⟨q, hn⟩
    · rw [hφ, hv] at hm
      cases hm
      exact ⟨.inl hs.sz, fun hp => Nat.lt_irrefl _ (hs.prlt _ hp)⟩
    · have hk := hs.blk n b' hn
      rw [((e (fun _ => True) trivial).ids n hk.1).2] at hm
      exact hs.lo n b' m hn hm
  · have key : ∀ i j bj, i = id → updH h [(id, some b)] j = some bj → blkOf (c'.φ i) = some n → blkOf (c'.φ j) = some n → i = j := fun i j bj hi hj hbi hbj => by
      subst hi
      rcases look j bj hj with ⟨rfl, rfl⟩ | ⟨q, hj⟩
      · rfl
      · have hk := hs.blk j bj hj
        rw [hφ, hv] at hbi
        cases hbi
        rw [((e (fun _ => True) trivial).ids j hk.1).2] at hbj
        exact absurd (hk.2.lt hbj) (Nat.lt_irrefl _)
    rcases look i bi hi with ⟨q, _⟩ | ⟨qi, hi'⟩
    · exact key i j bj q hj hbi hbj
    · rcases look j bj hj with ⟨q, _⟩ | ⟨qj, hj'⟩
      · exact (key j i bi q hi hbj hbi).symm
      · rw [((e (fun _ => True) trivial).ids i (hs.blk i bi hi').1).2] at hbi
        rw [((e (fun _ => True) trivial).ids j (hs.blk j bj hj').1).2] at hbj
        exact hs.inj i j bi bj n hi' hj' hbi hbj
  · exact (hold n (Nat.lt_of_lt_of_le hn hs.sz)).trans (hs.fr n hn hx)
  · show w'.os = w0.os
    rw [hw]; rcases hw1 with rfl | rfl <;> exact hs.os
  · show w'.tape = w0.tape
    rw [hw]; rcases hw1 with rfl | rfl <;> exact hs.tape
  · show w'.output = w0.output
    rw [hw]; rcases hw1 with rfl | rfl <;> exact hs.output
  · show w0.heap.size ≤ w'.heap.size
    have := hs.sz; omega
  · show n < w'.heap.size
    have := hs.prlt n hn; omega

/-- A block of the call's own is written. -/
theorem HSim.wrote {w0 : World} {X : Nat → Prop} {h : Nat → Option Blk} {c : Cx} (hs : HSim w0 X h c) (id : Nat) (b0 : Blk) (h0 : h id = some b0) (g : Nat) (hg : blkOf (c.φ id) = some g) (w' : World)
    (hold : ∀ n, n ≠ g → w'.heap[n]? = c.w.heap[n]?) (hsz : w'.heap.size = c.w.heap.size) (hos : w'.os = c.w.os) (ht : w'.tape = c.w.tape) (ho : w'.output = c.w.output) (b : Blk)
    (hb : ∀ c' : Cx, c'.w = w' → c'.φ id = c.φ id → (∀ N, Ext N c c') → BSim c' id b) :
    (∀ N, Ext N c { c with w := w' }) ∧ HSim w0 X (updH h [(id, some b)]) { c with w := w' } := by
  have hlo := hs.lo id b0 g h0 hg
  have e : ∀ N, Ext N c { c with w := w' } := fun N => ⟨fun n hn => ⟨hn, rfl⟩, fun n hn => .inl hn, fun n hn => ⟨hn, hold n fun q => hlo.2 (q ▸ hn)⟩, rfl⟩
  refine ⟨e, ?_⟩
  have look : ∀ n b', updH h [(id, some b)] n = some b' → (n = id ∧ b' = b) ∨ (n ≠ id ∧ h n = some b') := fun n b' hn => by
    simp only [updH, cond_eq_ite, beq_iff_eq] at hn
    by_cases q : n = id
    · rw [if_pos q] at hn; exact .inl ⟨q, (Option.some.inj hn).symm⟩
    · rw [if_neg q] at hn; exact .inr ⟨q, hn⟩
  have was : ∀ n b', updH h [(id, some b)] n = some b' → ∃ b'', h n = some b'' := fun n b' hn => by
    rcases look n b' hn with ⟨rfl, _⟩ | ⟨_, hn⟩
    · exact ⟨_, h0⟩
    · exact ⟨_, hn⟩
  refine ⟨fun n b' hn => ?_, fun n b' m hn hm => ?_, fun i j bi bj n hi hj hbi hbj => ?_, fun n hn hx => ?_, hos.trans hs.os, ht.trans hs.tape, ho.trans hs.output, ?_, fun n hn => ?_, hs.iv⟩
  · rcases look n b' hn with ⟨rfl, rfl⟩ | ⟨q, hn⟩
    · exact ⟨(hs.blk n b0 h0).1, hb _ rfl rfl e⟩
    · have hk := hs.blk n b' hn
      refine ⟨hk.1, hk.2.keep (e fun _ => True) hk.1 fun m hm => hold m fun q' => q ?_⟩
      subst q'
      exact hs.inj n id b' b0 m hn h0 hm hg
  · obtain ⟨b'', hn'⟩ := was n b' hn
    exact hs.lo n b'' m hn' hm
  · obtain ⟨_, hi'⟩ := was i bi hi
    obtain ⟨_, hj'⟩ := was j bj hj
    exact hs.inj i j _ _ n hi' hj' hbi hbj
  · rcases hlo.1 with hl | hl
    · exact (hold n (by omega)).trans (hs.fr n hn hx)
    · exact (hold n (fun q => hx (q ▸ hl))).trans (hs.fr n hn hx)
  · show w0.heap.size ≤ w'.heap.size
    rw [hsz]; exact hs.sz
  · show n < w'.heap.size
    rw [hsz]; exact hs.prlt n hn

/-- A block is forgotten. -/
theorem HSim.drop {w0 : World} {X : Nat → Prop} {h h' : Nat → Option Blk} {c : Cx} (hs : HSim w0 X h c) (hh : ∀ n b, h' n = some b → h n = some b) : HSim w0 X h' c :=
  ⟨fun n b hn => hs.blk n b (hh n b hn), fun n b m hn => hs.lo n b m (hh n b hn), fun i j bi bj n hi hj => hs.inj i j bi bj n (hh i bi hi) (hh j bj hj), hs.fr, hs.os, hs.tape, hs.output, hs.sz, hs.prlt, hs.iv⟩

end Go.Proofs.Ytilfdpllleninaa
