/- The engine, part J: regions, in the order of the text and in any order. -/
import Derived.Test.YtilfdpllleninaaEngI
namespace Go.Proofs.Ytilfdpllleninaa
set_option linter.unusedVariables false
set_option linter.unusedSimpArgs false

/-! ## The evaluator of a region -/

def putT (tm : Nat → PV) (d : Option Tmp) (v : PV) : Nat → PV :=
  match d with
  | some d => fun t => bif t == d then v else tm t
  | none => tm

/-- An operation with its guard. -/
def stepR (Γ : Gam) (T : TT) (all : List Oper) (idb : Nat) (o : Oper) : Rd OR :=
  match o.guard with
  | none => opR Γ T idb o
  | some (j, want) =>
    match lget all j with
    | none => .fail
    | some oj =>
      match oj.dst with
      | none => .fail
      | some d => do
        match ← rtmp d with
        | .bool b => do
          let b' ← rask (some d) b
          bif b' == want then opR Γ T idb o else .ret ⟨.tup [], []⟩
        | .boolK b => bif b == want then opR Γ T idb o else .ret ⟨.tup [], []⟩
        | .tup _ => .ret ⟨.tup [], []⟩
        | _ => .fail

structure Stp where
  o : Oper
  r : OR
  ds : Orc
  ds' : Orc
  cs : Conds
  fp : List Res

abbrev PS := (Nat → PV) × (Nat → Option Blk)

def Stp.app (k : Stp) (s : PS) : PS := (putT s.1 k.o.dst k.r.v, updH s.2 k.r.wr)

def okDst (n : Nat) : Option Tmp → Bool
  | some d => Nat.blt d n
  | none => true

/-- The steps of a region in the order of the text. -/
def steps (Γ : Gam) (T : TT) (n : Nat) (all : List Oper) : Nat → List Oper → PS → Orc → Option (List Stp × PS × Orc)
  | _, [], s, ds => some ([], s, ds)
  | idb, o :: os, s, ds =>
    match (stepR Γ T all idb o).run s.1 s.2 ds with
    | none => none
    | some (r, ds', cs, fp) =>
      bif okDst n o.dst then
        let k : Stp := ⟨o, r, ds, ds', cs, fp⟩
        match steps Γ T n all (idb + 8) os (k.app s) ds' with
        | none => none
        | some (ks, s', ds'') => some (k :: ks, s', ds'')
      else none

def condsOf : List Stp → Conds
  | [] => []
  | k :: ks => k.cs ++ condsOf ks

theorem told_nil : Told [] := fun _ _ _ h => by cases h

theorem Told.append {a b : Conds} (h1 : Told a) (h2 : Told b) : Told (a ++ b) := fun x h d hm => (List.mem_append.1 hm).elim (h1 x h d) (h2 x h d)

theorem steps_told {Γ : Gam} {T : TT} {n : Nat} {all : List Oper} : ∀ {os : List Oper} {idb : Nat} {s s' : PS} {o o' : Orc} {ks : List Stp}, steps Γ T n all idb os s o = some (ks, s', o') → o.Fine → Told (condsOf ks) ∧ o'.Fine
  | [], idb, s, s', o, o', ks, e, ho => by
    simp only [steps, Option.some.injEq, Prod.mk.injEq] at e
    obtain ⟨rfl, _, rfl⟩ := e
    exact ⟨told_nil, ho⟩
  | x :: os, idb, s, s', o, o', ks, e, ho => by
    simp only [steps] at e
    split at e
    · cases e
    · rename_i r ds1 cs fp hrun
      obtain ⟨h1, h2⟩ := run_told hrun ho
      cases hdst : okDst n x.dst with
      | false => rw [hdst] at e; cases e
      | true =>
        rw [hdst] at e
        simp only [cond_true] at e
        split at e
        · cases e
        · rename_i ks2 s2 ds2 hrest
          simp only [Option.some.injEq, Prod.mk.injEq] at e
          obtain ⟨rfl, rfl, rfl⟩ := e
          obtain ⟨h3, h4⟩ := steps_told hrest h2
          exact ⟨h1.append h3, h4⟩

/-! ### Any order -/

def wrIds : List (Nat × Option Blk) → List Res
  | [] => []
  | (i, _) :: r => .b i :: wrIds r

def Stp.ws (k : Stp) : List Res :=
  match k.o.dst with
  | some d => .t d :: wrIds k.r.wr
  | none => wrIds k.r.wr

def resIn (x : Res) : List Res → Bool
  | [] => false
  | y :: ys => (match x, y with
    | .t a, .t b => a == b
    | .b a, .b b => a == b
    | _, _ => false) || resIn x ys

def meet (a b : List Res) : Bool :=
  match a with
  | [] => false
  | x :: xs => resIn x b || meet xs b

def conflicts (i j : Stp) : Bool := meet i.ws j.fp || meet i.ws j.ws || meet i.fp j.ws

def natIn (x : Nat) : List Nat → Bool
  | [] => false
  | y :: ys => x == y || natIn x ys

def insN (x : Nat) (l : List Nat) : List Nat := bif natIn x l then l else x :: l
def uniN : List Nat → List Nat → List Nat
  | [], l => l
  | x :: xs, l => insN x (uniN xs l)

/-- What stands before an operation, directly and through others, each once. -/
def predsOf (acc : List (List Nat)) : List Edge → List Nat
  | [] => []
  | e :: es => bif Region.binds .any e then insN e.on (uniN ((lget acc e.on).getD []) (predsOf acc es)) else predsOf acc es

def edgesBack (j : Nat) : List Edge → Bool
  | [] => true
  | e :: es => (!Region.binds .any e || Nat.blt e.on j) && edgesBack j es

/-- No two steps that no edge orders touch the same. -/
def freeFrom (pre : List Nat) (k : Stp) : Nat → List Stp → Bool
  | _, [] => true
  | i, x :: xs => (!conflicts x k || natIn i pre) && freeFrom pre k (i + 1) xs

def orderOk : (done : List Stp) → (acc : List (List Nat)) → List Stp → Bool
  | _, _, [] => true
  | done, acc, k :: ks =>
    let pre := predsOf acc k.o.after.toList
    edgesBack done.length k.o.after.toList && freeFrom pre k 0 done && orderOk (done ++ [k]) (acc ++ [pre]) ks

/-! ## What a state says -/

structure St where
  tm : Nat → PV
  hp : Nat → Option Blk
  nx : Nat
  /-- what stands for arguments as they came -/
  gs : List PV := []

def Ghosts (c : Cx) (ar : Array Value) (gs : List PV) : Prop := ∀ i p, lget gs i = some p → p = .junk ∨ ∃ v, ar[i]? = some v ∧ VSim c p v

theorem Ghosts.ext {N : Nat → Prop} {c c' : Cx} {ar : Array Value} {gs : List PV} (e : Ext N c c') (h : Ghosts c ar gs) : Ghosts c' ar gs := fun i p hp => (h i p hp).imp (fun a => a) fun ⟨v, h1, h2⟩ => ⟨v, h1, h2.ext e⟩

structure Sim (w0 : World) (X : Nat → Prop) (ar : Array Value) (n : Nat) (S : St) (c : Cx) (a : Act) : Prop where
  ar' : c.ar = ar
  ht : ∀ t, VSim c (S.tm t) (a.tmps.getD t undef)
  sz : a.tmps.size = n
  df : a.defers = []
  hs : HSim w0 X S.hp c
  nx : ∀ id, c.K id → id < S.nx
  gh : Ghosts c ar S.gs

section
variable {P : Program} {w0 : World} {X : Nat → Prop} {ar : Array Value} {c : Cx} {a : Act} {Γ : Gam} {T : TT} {n : Nat} {gs : List PV}

theorem put_sim {N : Nat → Prop} {tm : Nat → PV} {c' : Cx} (e : Ext N c c') (ht : ∀ t, VSim c (tm t) (a.tmps.getD t undef)) {d : Option Tmp} (hd : okDst a.tmps.size d = true) {p : PV} {v : Value} (hv : VSim c' p v) (t : Nat) :
    VSim c' (putT tm d p t) ((a.put d v).tmps.getD t undef) := by
  cases d with
  | none => exact (ht t).ext e
  | some d =>
    have hlt : d < a.tmps.size := by simpa [okDst, Nat.blt_eq] using hd
    simp only [putT, Act.put, cond_eq_ite, beq_iff_eq]
    by_cases q : t = d
    · subst q
      rw [if_pos rfl]
      simpa [hlt] using hv
    · rw [if_neg q]
      have : (a.tmps.setIfInBounds d v).getD t undef = a.tmps.getD t undef := by simp [Array.getElem?_setIfInBounds_ne (Ne.symm q)]
      rw [this]
      exact (ht t).ext e

theorem put_size (d : Option Tmp) (v : Value) : (a.put d v).tmps.size = a.tmps.size := by cases d <;> simp [Act.put]
theorem put_defers (d : Option Tmp) (v : Value) : (a.put d v).defers = a.defers := by cases d <;> rfl

theorem undef_sim : VSim c (.tup []) undef := by simp only [VSim]; exact ⟨#[], rfl, by simp [VSims]⟩

/-- One operation, wanted or not. -/
theorem stepR_sound (hΓ : GamOK P Γ) (hT : TTOK P T) {h : Nat → Option Blk} {tm : Nat → PV} (hs : HSim w0 X h c) (ht : ∀ t, VSim c (tm t) (a.tmps.getD t undef)) {idb : Nat} (hid : ∀ n, idb ≤ n → n < idb + 8 → ¬ c.K n) {ops : Array Oper} {i : Nat} {o : Oper} (ho : ops[i]? = some o) {r : OR}
    (hd : Does tm h (stepR Γ T ops.toList idb o) r) {K : Act → World → Prop} {Q : Exit → Act → World → Prop}
    (hk : ∀ v c', Ext (fun n => idb ≤ n ∧ n < idb + 8) c c' → VSim c' r.v v → HSim w0 X (updH h r.wr) c' → K (a.put o.dst v) c'.w) : wpOp P ops Q i K a c.w := by
  unfold wpOp
  simp only [ho]
  unfold stepR at hd
  split at hd
  · rename_i hg
    have hw : Region.wanted o (yielded ops a.tmps) = true := by simp [Region.wanted, hg]
    rw [if_pos hw]
    exact .inl (opR_sound hΓ hT hs ht hid hd K Q hk)
  · rename_i j want hg
    split at hd
    · simp at hd
    · rename_i oj hj
      split at hd
      · simp at hd
      · rename_i d hdst
        simp only [does_bind, does_tmp] at hd
        obtain ⟨p, rfl, hd⟩ := hd
        have main : ∀ {b : Bool}, a.tmps.getD d undef = .bool b → Region.wanted o (yielded ops a.tmps) = (b == want) := by
          intro b hv
          have hy : yielded ops a.tmps j = some b := by
            have hoj : ops[j]? = some oj := by rw [← hj, lget_eq]; simp
            unfold yielded
            rw [hoj]
            simp only [Option.bind_some, hdst]
            have : a.tmps[d]? = some (.bool b) := by
              cases hq : a.tmps[d]? with
              | none => simp [hq, undef] at hv
              | some x => simp [hq] at hv; rw [hv]
            rw [this]
          simp only [Region.wanted, hg, hy]
          cases b <;> cases want <;> rfl
        split at hd
        · rename_i b hb
          simp only [does_bind, does_ask] at hd
          obtain ⟨b', rfl, hd⟩ := hd
          have hv := ht d
          rw [hb] at hv
          simp only [VSim] at hv
          rw [main hv]
          rw [cond_eq_ite] at hd
          split at hd
          · rename_i hbw
            rw [if_pos hbw]
            exact .inl (opR_sound hΓ hT hs ht hid hd K Q hk)
          · rename_i hbw
            rw [if_neg hbw]
            simp only [does_ret] at hd
            subst hd
            exact hk undef c (Ext.refl _ c) undef_sim hs
        · rename_i b hb
          have hv := ht d
          rw [hb] at hv
          simp only [VSim] at hv
          rw [main hv]
          rw [cond_eq_ite] at hd
          split at hd
          · rename_i hbw
            rw [if_pos hbw]
            exact .inl (opR_sound hΓ hT hs ht hid hd K Q hk)
          · rename_i hbw
            rw [if_neg hbw]
            simp only [does_ret] at hd
            subst hd
            exact hk undef c (Ext.refl _ c) undef_sim hs
        · rename_i us hb
          have hv := ht d
          rw [hb] at hv
          simp only [VSim] at hv
          obtain ⟨xs, hx, _⟩ := hv
          have hy : yielded ops a.tmps j = none := by
            have hoj : ops[j]? = some oj := by rw [← hj, lget_eq]; simp
            unfold yielded
            rw [hoj]
            simp only [Option.bind_some, hdst]
            cases hq : a.tmps[d]? with
            | none => rfl
            | some y => simp [hq] at hx; rw [hx]
          have hw : Region.wanted o (yielded ops a.tmps) = false := by simp only [Region.wanted, hg, hy]; rfl
          rw [hw, if_neg (by simp)]
          simp only [does_ret] at hd
          subst hd
          exact hk undef c (Ext.refl _ c) undef_sim hs
        · simp at hd

/-- A region in the order of its text. -/
theorem steps_sound (hΓ : GamOK P Γ) (hT : TTOK P T) {ops : Array Oper} {Q : Exit → Act → World → Prop} : ∀ (os : List Oper) (i idb : Nat) (s : PS) (ds ds' : Orc) (ks : List Stp) (s' : PS) (c : Cx) (a : Act), ops.toList.drop i = os →
    steps Γ T n ops.toList idb os s ds = some (ks, s', ds') → AllEq (condsOf ks) → Sim w0 X ar n ⟨s.1, s.2, idb, gs⟩ c a → (∀ c' a', Sim w0 X ar n ⟨s'.1, s'.2, idb + 8 * os.length, gs⟩ c' a' → Q .normal a' c'.w) →
    wpOps P ops Q (List.range' i os.length) a c.w
  | [], i, idb, s, ds, ds', ks, s', c, a, hos, he, hc, hsim, hq => by
    simp only [steps, Option.some.injEq, Prod.mk.injEq] at he
    obtain ⟨rfl, rfl, rfl⟩ := he
    exact hq c a (by simpa using hsim)
  | o :: os, i, idb, s, ds, ds', ks, s', c, a, hos, he, hc, hsim, hq => by
    simp only [steps] at he
    split at he
    · cases he
    · rename_i r ds1 cs fp hrun
      cases hdst : okDst n o.dst with
      | false => rw [hdst] at he; cases he
      | true =>
        rw [hdst] at he
        simp only [cond_true] at he
        split at he
        · cases he
        · rename_i ks2 s2 ds2 hrest
          simp only [Option.some.injEq, Prod.mk.injEq] at he
          obtain ⟨rfl, rfl, rfl⟩ := he
          obtain ⟨hc1, hc2⟩ := AllEq.append hc
          have hd := does_of_run hrun hc1
          have hi : ops[i]? = some o := by
            have := congrArg List.head? hos
            simpa using this
          have hos' : ops.toList.drop (i + 1) = os := by
            have := congrArg List.tail hos
            simpa using this
          simp only [List.length_cons, List.range'_succ, wpOps_cons]
          refine stepR_sound hΓ hT hsim.hs hsim.ht (fun m h1 _ hk => ?_) hi hd ?_
          · have h2 : m < idb := hsim.nx m hk
            omega
          · intro v c' e hv hh
            refine steps_sound hΓ hT os (i + 1) (idb + 8) _ ds1 _ ks2 _ c' (a.put o.dst v) hos' hrest hc2 ⟨e.ar.trans hsim.ar', ?_, ?_, ?_, hh, ?_, hsim.gh.ext e⟩ (fun c2 a2 h2 => hq c2 a2 ?_)
            · exact put_sim e hsim.ht (by rw [hsim.sz]; exact hdst) hv
            · rw [put_size]; exact hsim.sz
            · rw [put_defers]; exact hsim.df
            · intro m hm
              show m < idb + 8
              rcases e.new m hm with h1 | h1
              · have h2 : m < idb := hsim.nx m h1
                omega
              · omega
            · rw [List.length_cons, Nat.mul_add, Nat.mul_one, Nat.add_comm (8 * os.length) 8, ← Nat.add_assoc]
              exact h2

end
end Go.Proofs.Ytilfdpllleninaa
