/- The engine, part Gb: conversions of []byte and strings. -/
import Derived.Test.YtilfdpllleninaaEngG
import Derived.Lib.ConvBytes
import Derived.Laws.BytesString
import Derived.Deep.AppendSrc
namespace Go.Proofs.Ytilfdpllleninaa
set_option linter.unusedVariables false
set_option linter.unusedSimpArgs false
open Go.Lib

theorem freeze_end {w : World} {g : Nat} {cur : Array Value} {e : TypeId} {fz : Nat × Nat} (hg : w.heap[g]? = some (.cells cur e fz)) (hf : FzOK fz cur.size) : (w.freeze ⟨g, cur.size, none⟩ 1).heap[g]? = some (.cells cur e (cur.size, cur.size + 1)) := by
  have hlt : g < w.heap.size := (Array.getElem?_eq_some_iff.1 hg).1
  have he : w.heap[g] = .cells cur e fz := (Array.getElem?_eq_some_iff.1 hg).2
  rw [Array.getElem?_eq_getElem (by simpa [World.freeze] using hlt)]
  congr 1
  simp only [World.freeze, Nat.succ_ne_zero, if_false]
  rw [Array.getElem_modify_self]
  rw [he]
  rcases hf with rfl | rfl
  · simp
  · have : ¬ cur.size = cur.size + 1 := by omega
    simp [this]

theorem freeze_other {w : World} {g k n m : Nat} (h : k ≠ g) : (w.freeze ⟨g, n, none⟩ m).heap[k]? = w.heap[k]? := by
  unfold World.freeze
  split
  · rfl
  · simp only [Array.getElem?_modify]
    rw [if_neg (fun e => h e.symm)]

theorem freeze_rest {w : World} {g n m : Nat} : (w.freeze ⟨g, n, none⟩ m).os = w.os ∧ (w.freeze ⟨g, n, none⟩ m).tape = w.tape ∧ (w.freeze ⟨g, n, none⟩ m).output = w.output ∧ (w.freeze ⟨g, n, none⟩ m).heap.size = w.heap.size := by
  unfold World.freeze
  split <;> simp

theorem run_markStringish {P : Program} {w : World} {g o : Nat} {cur : Array Value} {e : TypeId} {fz : Nat × Nat} (hg : w.heap[g]? = some (.cells cur e fz)) : (markStringish ⟨g, o, none⟩).run P w = .ok () (w.freeze ⟨g, cur.size, none⟩ 1) := by
  have hs : w.shape? g = some (e, cur.size) := by simp [World.shape?, hg]
  simp [markStringish, hs, Result.andThen]

theorem run_convert_self {P : Program} {w : World} {s e : TypeId} (hs : P.underlying s = some (.slice e)) (he : P.underlying e = some (.int .u8)) {g o n m : Nat} {cur : Array Value} {t : TypeId} {fz : Nat × Nat} (hg : w.heap[g]? = some (.cells cur t fz)) :
    (convert s s (.slice (some ⟨g, o, none⟩) n m)).run P w = .ok (.slice (some ⟨g, o, none⟩) n m) (w.freeze ⟨g, cur.size, none⟩ 1) := by
  simp [convert, run_underlying hs, run_underlying he, run_markStringish (P := P) (o := o) hg, Result.andThen]

theorem foldl_push (ns : List Int) : ∀ r : ByteArray, (ns.foldl (fun r n => r.push (UInt8.ofNat n.toNat)) r).data.toList = r.data.toList ++ ns.map fun n => UInt8.ofNat n.toNat := by
  induction ns with
  | nil => intro r; simp
  | cons n ns ih =>
    intro r
    rw [List.foldl_cons, ih]
    simp [ByteArray.push]

theorem freeze_alloc (w : World) (cells : Array Value) (e : TypeId) : (w.alloc (.cells cells e)).freeze ⟨w.heap.size, cells.size, none⟩ 1 = w.alloc (.cells cells e (cells.size, cells.size + 1)) := by
  unfold World.freeze World.alloc
  simp only [Nat.succ_ne_zero, if_false]
  congr 1
  apply Array.ext
  · simp
  · intro q h1 h2
    simp only [Array.getElem_modify, Array.getElem_push]
    by_cases hq : q < w.heap.size
    · have : ¬ w.heap.size = q := by omega
      simp [hq, this]
    · have hq2 : w.heap.size = q := by simp at h2; omega
      simp [hq, hq2]

section
variable {P : Program} {w0 : World} {X : Nat → Prop} {h : Nat → Option Blk} {N : Nat → Prop} {c : Cx} {tm : Nat → PV}

theorem u8s_length (l : List UInt8) : (u8s l).length = l.length := List.length_map (β := Int) _

theorem u8s_sim : ∀ l : List UInt8, All2 SSim (flat (.int .u8) (u8s l)) (l.map fun b => Value.int .u8 b.toNat)
  | [] => trivial
  | b :: r => ⟨rfl, u8s_sim r⟩

/-- A string made a slice of bytes. -/
theorem toBytes_good (hs : HSim w0 X h c) {id : Nat} (hN : N id) (hid : ¬ c.K id) {s d e : TypeId} {u : TypeDesc} (hu : P.underlying s = some u) (hd : P.underlying d = some (.slice e)) (he : P.underlying e = some (.int .u8)) {l : List UInt8} {x : Value} (hp : VSim c (.str l) x) (hl : l.length ≤ maxLen) :
    Good w0 X h [(id, some (.typed e (.int .u8) (u8s l)))] N c (.own id) ((convert s d x).run P c.w) := by
  simp only [VSim] at hp
  obtain ⟨ba, rfl, rfl⟩ := hp
  have hr := run_convert_string_bytes (P := P) c.w s d e ba hu hd he
  have hsz : ba.data.toList.length = ba.size := rfl
  have hge := grownCap_ge c.w ba.size 0 e
  have hcs : (bytesCells c.w e ba).size = grownCap c.w ba.size 0 e := by
    unfold bytesCells
    have : ba.data.size = ba.size := rfl
    simp only [Array.size_append, Array.size_map, Array.size_replicate, this]
    omega
  have hw : bytesWorld c.w e ba = c.w.drew.alloc (.cells (bytesCells c.w e ba) e ((bytesCells c.w e ba).size, (bytesCells c.w e ba).size + 1)) := freeze_alloc c.w.drew _ _
  obtain ⟨c', hw', hφ, hK, hext, hh⟩ := hs.made id hid c.w.drew _ (.cells (bytesCells c.w e ba) e ((bytesCells c.w e ba).size, (bytesCells c.w e ba).size + 1)) (.inr rfl) rfl (.slice (some ⟨c.w.heap.size, 0, none⟩) ba.size (grownCap c.w ba.size 0 e)) rfl (.typed e (.int .u8) (u8s ba.data.toList)) (fun c' hw hφ he => by
    refine ⟨ba.data.toList.map fun b => Value.int .u8 b.toNat, ⟨?_, .inr ⟨c.w.heap.size, grownCap c.w ba.size 0 e, bytesCells c.w e ba, _, ?_, by rw [hw]; exact heap_alloc_new c.w.drew _, .inr rfl, ?_, ?_, ?_, ?_⟩⟩, ?_⟩
    · rw [List.length_map, u8s_length]; exact (Nat.mul_one _).symm
    · rw [hφ, u8s_length, hsz]
    · rw [u8s_length, hsz]; exact hge
    · exact grownCap_le_maxLen c.w ba.size 0 e (by rw [← hsz]; exact hl)
    · rw [hcs]; exact (Nat.mul_one _).symm
    · rw [u8s_length]
      unfold bytesCells
      rw [Array.toList_append, Array.toList_map]
      have e1 : ba.data.toList.length * (UC.int .u8).size = (List.map (fun b => Value.int IntKind.u8 ↑b.toNat) ba.data.toList).length := by rw [List.length_map]; exact Nat.mul_one _
      rw [e1]
      exact List.take_left
    · exact u8s_sim _)
  refine ⟨_, c', by rw [hr, hw, hw'], hext N hN, ?_, hh⟩
  simp only [VSim]
  exact ⟨hK, hφ.symm, _, _, _, rfl⟩

/-- A slice of bytes made itself: its row is frozen behind its end. -/
theorem self_good (hs : HSim w0 X h c) {id : Nat} {s e e0 : TypeId} (hu : P.underlying s = some (.slice e)) (he : P.underlying e = some (.int .u8)) {u : UC} {xs : List u.T} (hb : h id = some (.typed e0 u xs)) (hne : 0 < xs.length) {x : Value} (hp : VSim c (.own id) x) :
    Good w0 X h [(id, some (.typed e0 u xs))] N c (.own id) ((convert s s x).run P c.w) := by
  simp only [VSim] at hp
  obtain ⟨hK, rfl, _⟩ := hp
  obtain ⟨_, vs, ho, hS⟩ := hs.blk id _ hb
  rcases ho.2 with ⟨hv, hn⟩ | ⟨g, cap, cur, fz, hv, hheap, hfz, hcap, hcm, hcs, htake⟩
  · omega
  · have hr := run_convert_self (P := P) hu he (o := 0) (n := xs.length) (m := cap) hheap
    rw [hv, hr]
    obtain ⟨r1, r2, r3, r4⟩ := freeze_rest (w := c.w) (g := g) (n := cur.size) (m := 1)
    obtain ⟨hext, hh⟩ := hs.wrote id _ hb g (by rw [hv]; rfl) (c.w.freeze ⟨g, cur.size, none⟩ 1) (fun n hn => freeze_other hn) r4 r1 r2 r3 (.typed e0 u xs) (fun c' hw hφ hx =>
      ⟨vs, ⟨ho.1, .inr ⟨g, cap, cur, _, by rw [hφ, hv], by rw [hw]; exact freeze_end hheap hfz, .inr rfl, hcap, hcm, hcs, htake⟩⟩, hS⟩)
    refine ⟨_, { c with w := c.w.freeze ⟨g, cur.size, none⟩ 1 }, rfl, hext N, ?_, hh⟩
    simp only [VSim]
    exact ⟨hK, hv.symm, _, _, _, rfl⟩

theorem u8_news : ∀ (ys : List (UC.int .u8).T) (news : List Value), All2 SSim (flat (.int .u8) ys) news → news = List.map (fun n : Int => Value.int .u8 n) ys
  | [], [], _ => rfl
  | [], _ :: _, hS => hS.elim
  | y :: ys, [], hS => hS.elim
  | y :: ys, v :: news, hS => by
    have h1 : v = .int .u8 y := hS.1
    have h2 := u8_news ys news hS.2
    rw [h1, h2]
    rfl

/-- A slice of bytes made a string. -/
theorem toStr_good (hs : HSim w0 X h c) {s d e : TypeId} (hu : P.underlying s = some (.slice e)) (he : P.underlying e = some (.int .u8)) (hd : P.underlying d = some .string) {q : PV} {x : Value} (hq : VSim c q x) {ys : List (UC.int .u8).T} (hys : Does tm h (srcR (.int .u8) q) ys) :
    Good w0 X h [] N c (.str (strOf ys)) ((convert s d x).run P c.w) := by
  obtain ⟨a, m, rfl, hsrc⟩ := srcR_sim hs hq hys
  have hr := run_convert_bytes_string (P := P) c.w s d e a ys.length m hu he hd
  have key : ∃ ba : ByteArray, (Conv.bytesToString (.slice a ys.length m)).run P c.w = .ok (.string ba) c.w ∧ ba.data.toList = strOf ys := by
    cases a with
    | none =>
      refine ⟨.empty, rfl, ?_⟩
      cases ys with
      | nil => rfl
      | cons y r =>
        obtain ⟨g, off, news, ha, _⟩ := hsrc (by simp)
        cases ha
    | some a =>
      have hload : (loadCells a ys.length).run P c.w = .ok (List.map (Value.int .u8) (α := Int) ys).toArray c.w := by
        cases ys with
        | nil =>
          simp [loadCells, loadCellsFrom]
          rfl
        | cons y r =>
          obtain ⟨g, off, news, ha, hc, hS⟩ := hsrc (by simp)
          cases ha
          have hn := u8_news _ _ hS
          have hl := run_loadCells_list (P := P) c.w ⟨g, off, none⟩ news (fun j v hv => by rw [Addr.add_lit]; exact hc j v hv)
          have hlen : news.length = (y :: r).length := by rw [hn]; exact List.length_map (α := Int) _
          rw [hlen] at hl
          rw [hl, hn]
      have hb := run_bytesToString (P := P) c.w a ys.length m ys hload
      refine ⟨_, hb, ?_⟩
      have := foldl_push ys ByteArray.empty
      rw [this]
      rfl
  obtain ⟨ba, h1, h2⟩ := key
  exact good_pure hs (hr.trans h1) (by simp only [VSim]; exact ⟨ba, rfl, h2⟩)

theorem u8_desc {e : TypeId} {k : TI} (hE : TIOK P e k) (h8 : k.d.isU8 = true) : P.underlying e = some (.int .u8) := by
  have hd := hE.d
  cases hk : k.d with
  | int q =>
    rw [hk] at h8 hd
    cases q <;> first | exact hd | cases h8
  | _ => rw [hk] at h8; cases h8

theorem convO_good (hs : HSim w0 X h c) {T : TT} (hTT : TTOK P T) {id : Nat} (hN : N id) (hid : ¬ c.K id) {s d : TypeId} {i j : TI} (hS : TIOK P s i) (hD : TIOK P d j) {p : PV} {x : Value} (hp : VSim c p x) {r : OR} (hd : Does tm h (convO T id s d i j p) r) :
    Good w0 X h r.wr N c r.v ((convert s d x).run P c.w) := by
  have hsd := hS.d
  have hdd := hD.d
  unfold convO at hd
  split at hd
  · rename_i e l e1 e2
    rw [e1] at hsd
    rw [e2] at hdd
    simp only [does_bind, does_ti, does_need, decide_eq_true_eq] at hd
    obtain ⟨k, hk, _, hl, hd⟩ := hd
    rw [cond_eq_ite] at hd
    split at hd
    · rename_i h8
      simp only [does_ret] at hd
      subst hd
      exact toBytes_good hs hN hid hsd hdd (u8_desc (hTT _ k hk) h8) hp (by unfold maxLen; omega)
    · simp at hd
  · rename_i e e' id' e1 e2
    rw [e1] at hsd
    simp only [does_bind, does_ti, does_blk] at hd
    obtain ⟨k, hk, b, hb, hd⟩ := hd
    split at hd
    · rename_i e0 u xs hb'
      simp only [does_bind, does_need, decide_eq_true_eq] at hd
      obtain ⟨_, hl, hd⟩ := hd
      rw [cond_eq_ite] at hd
      split at hd
      · rename_i h8
        rw [and_true_iff] at h8
        have hq := of_decide_eq_true h8.1
        simp only [does_ret] at hd
        subst hd
        subst hq
        exact self_good hs hsd (u8_desc (hTT _ k hk) h8.2) (by first | exact hb | exact hb.symm | simp_all) hl hp
      · simp at hd
    · simp at hd
  · rename_i e e1 e2
    rw [e1] at hsd
    rw [e2] at hdd
    simp only [does_bind, does_ti] at hd
    obtain ⟨k, hk, ys, hys, hd⟩ := hd
    rw [cond_eq_ite] at hd
    split at hd
    · rename_i h8
      simp only [does_okv] at hd
      subst hd
      exact toStr_good hs hsd (u8_desc (hTT _ k hk) h8) hdd hp hys
    · simp at hd
  · simp only [does_bind, does_okv] at hd
    obtain ⟨q, hq, rfl⟩ := hd
    exact convR_good hs hS hD hp hq

theorem run_append_zero_str (w : World) {t e u : TypeId} {info : TypeInfo} {ty : TypeId} (ht : P.underlying t = some (.slice e)) (hu : P.underlying u = some .string) (hi : P.info? e = some info) {a : Option Addr} {n cap : Nat} {s : ByteArray} (hs : s.size = 0) (hn : n ≤ cap) :
    (Builtin.append_ #[t, u] ty #[.slice a n cap, .string s]).run P w = .ok (.slice a n cap) w := by
  have hb : s = .empty := by cases s with | mk d => cases d with | mk l => cases l with | nil => rfl | cons _ _ => simp [ByteArray.size] at hs
  subst hb
  cases a <;> simp [Builtin.append_, run_underlying ht, run_underlying hu, sizeOf, typeInfo, hi, Builtin.lenOf, Builtin.firstCells, hn, storeCells, loadCells, loadCellsFrom]

theorem appendS_good (hs : HSim w0 X h c) {T : TT} (hTT : TTOK P T) {id : Nat} (hN : N id) (hid : ¬ c.K id) {t t' e ty : TypeId} (hu : P.underlying t = some (.slice e)) (hu' : P.underlying t' = some .string) {p : PV} {l : List UInt8} {x y : Value} (hp : VSim c p x) (hq : VSim c (.str l) y) {r : OR} (hd : Does tm h (appendS T id e p l) r) :
    Good w0 X h r.wr N c r.v ((Builtin.append_ #[t, t'] ty #[x, y]).run P c.w) := by
  unfold appendS at hd
  simp only [does_bind, does_ti] at hd
  obtain ⟨i, hi, hd⟩ := hd
  have hE := hTT e i hi
  obtain ⟨info, z, hinf, hsz, hby, hz, hzs⟩ := hE.inf
  have grown : ∀ {u : UC} {zs : List u.T} {all : List Value} {old : Nat}, i.zero.length = u.size → All2 SSim (flat u zs) all → zs.length ≤ maxLen → old < zs.length → ∀ {r : Result Value},
      r = .ok (.slice (some ⟨c.w.heap.size, 0, none⟩) zs.length (grownCap c.w zs.length old e)) (c.w.drew.alloc (.cells (all.toArray ++ Builtin.zeroCells z.cells (grownCap c.w zs.length old e - zs.length)) e)) →
      Good w0 X h [(id, some (.typed e u zs))] N c (.own id) r := by
    intro u zs all old hzl hS hmax hold r hr
    have hge := grownCap_ge c.w zs.length old e
    have hcm := grownCap_le_maxLen c.w zs.length old e hmax
    have hzsz : z.cells.size = u.size := by have := hzs.length; rw [hzl] at this; simpa using this.symm
    have hal : all.length = zs.length * u.size := by rw [← hS.length, flat_length]
    refine made_slice hs hN hid (arr := all.toArray ++ Builtin.zeroCells z.cells (grownCap c.w zs.length old e - zs.length)) ?_ hge hcm ?_ hS (.inr rfl) hr
    · simp only [Array.size_append, List.size_toArray, size_zeroCells, hzsz, hal, ← Nat.add_mul]
      congr 1
      omega
    · rw [Array.toList_append, List.toList_toArray, ← hal]
      exact List.take_left
  simp only [VSim] at hq
  obtain ⟨ba, rfl, rfl⟩ := hq
  split at hd
  · rename_i old
    simp only [does_bind, does_blk] at hd
    obtain ⟨b, rfl, hd⟩ := hd
    split at hd
    · rename_i e' u xs hb
      simp only [does_bind, does_need, does_lift, and_true_iff, decide_eq_true_eq] at hd
      obtain ⟨ys, hys, _, ⟨hb1, hb2⟩, hd⟩ := hd
      obtain ⟨hue, hys⟩ := UC.cast_eq _ _ _ _ hys
      subst hue
      subst hys
      rw [cond_eq_ite] at hd
      split at hd
      · rename_i hc
        simp only [and_true_iff] at hc
        obtain ⟨⟨he, hju⟩, hzl⟩ := hc
        have he := eq_of_beq he
        have hju := eq_of_beq hju
        have hzl := eq_of_beq hzl
        subst he
        simp only [does_ret] at hd
        subst hd
        simp only [VSim] at hp
        obtain ⟨hK, rfl, _⟩ := hp
        obtain ⟨_, vs, ho, hS⟩ := hs.blk old _ hb
        have hyl : (u8s ba.data.toList).length = ba.size := by rw [u8s_length]; rfl
        have hmax : (xs ++ u8s ba.data.toList).length ≤ maxLen := by rw [List.length_append]; unfold maxLen; omega
        by_cases hne : ba.size = 0
        · have hnil : u8s ba.data.toList = [] := List.eq_nil_of_length_eq_zero (hyl.trans hne)
          obtain ⟨a', cap, hx, hcap⟩ : ∃ a' cap, c.φ old = .slice a' xs.length cap ∧ xs.length ≤ cap := by
            rcases ho.2 with ⟨hv, hn⟩ | ⟨g, cap, cur, fz, hv, _, _, hn, _⟩
            · exact ⟨none, 0, by rw [hv, hn], by rw [hn]; exact Nat.le_refl _⟩
            · exact ⟨_, cap, hv, hn⟩
          have hrun := run_append_zero_str (P := P) c.w (ty := ty) hu hu' hinf (a := a') (n := xs.length) (cap := cap) hne hcap
          rw [← hx] at hrun
          obtain ⟨c', hw, hφ, hk, hext, hh⟩ := hs.moved (N := N) hN hid hb (w' := c.w) (v := c.φ old) ⟨rfl, rfl, rfl, Nat.le_refl _, fun _ _ _ => rfl⟩ (fun n hn => .inl hn) (.typed e' (.int .u8) (xs ++ u8s ba.data.toList)) (fun n hn => ownBlock_blk hn)
            (fun c' hw hφ he => ⟨vs, by rw [hnil, List.append_nil, hφ, hw]; exact ho, by rw [hnil, List.append_nil]; exact hS⟩)
          refine ⟨_, c', by rw [hw]; exact hrun, hext, ?_, hh⟩
          simp only [VSim]
          exact ⟨hk, hφ.symm, _, _, _, hx⟩
        · have h1 : info.size = 1 := by rw [hsz, hju]; rfl
          have hS2 : All2 SSim (flat (.int .u8) (u8s ba.data.toList)) (byteCells ba) := u8s_sim _
          have hsrc : Src P info.size t' (.string ba) ba.size (byteCells ba) c.w := by rw [h1]; exact Src.ofString c.w hu' ba
          have hnl : (byteCells ba).length = ba.size * info.size := hsrc.newsLen
          have hall : All2 SSim (flat (.int .u8) (xs ++ u8s ba.data.toList)) (vs ++ byteCells ba) := by rw [flat_append]; exact hS.append hS2
          have hxl : xs.length + ba.size = (xs ++ u8s ba.data.toList).length := by rw [List.length_append, hyl]
          rw [hyl] at hb1 hb2
          rcases ho.2 with ⟨hv, hn⟩ | ⟨g', cap, cur, fz, hv, hheap, hfz, hcap, hcm, hcs, htake⟩
          · have hxs : xs = [] := List.eq_nil_of_length_eq_zero hn
            subst hxs
            have hvs : vs = [] := List.eq_nil_of_length_eq_zero (by rw [← hS.length]; rfl)
            subst hvs
            rw [hv]
            have hr := run_append_grow_src (P := P) c.w t t' ty e' info z hu hinf hz none 0 0 [] (run_firstCells_none c.w.drew info.size 0 0 0) (.string ba) ba.size (byteCells ba) hsrc (by omega) (by omega)
              (growslice_fits (by omega) (by rw [hby, Nat.zero_add]; simpa using hb1))
            exact good_drop (grown (u := .int .u8) (zs := [] ++ u8s ba.data.toList) (all := [] ++ byteCells ba) (old := 0) hzl hall hmax (by rw [← hxl]; simp; omega) (by rw [← hxl]; simpa using hr))
          · rw [hv]
            by_cases hroom : xs.length + ba.size ≤ cap
            · have hfit : xs.length * info.size + (byteCells ba).length ≤ cur.size := by rw [hnl, hcs, hsz, hju, ← Nat.add_mul]; exact Nat.mul_le_mul_right _ hroom
              have hr0 := run_append_room_src (P := P) c.w t t' ty e' info hu hinf g' 0 xs.length cap (.string ba) ba.size (byteCells ba) hsrc hroom (fun j hj => by simp only [World.cell?, hheap]; simp; omega) (fun j hj => by rw [Nat.zero_add]; exact frozen_not hheap hfz (by omega))
              rw [Nat.zero_add, setCells_row (byteCells ba) _ cur c.w hheap hfit] at hr0
              have hr := hr0
              have hsz' : info.size = (UC.int .u8).size := by rw [hsz, hju]
              rw [hsz'] at hr hfit
              have hvl : vs.length = xs.length * (UC.int .u8).size := ho.1
              obtain ⟨cs1, hcs1⟩ : ∃ x, x = (cur.toList.take (xs.length * (UC.int .u8).size) ++ byteCells ba ++ cur.toList.drop (xs.length * (UC.int .u8).size + (byteCells ba).length)).toArray := ⟨_, rfl⟩
              rw [← hcs1] at hr
              obtain ⟨c', hw, hφ, hk, hext, hh⟩ := hs.moved (N := N) hN hid hb (w' := c.w.setRow g' cs1) (v := .slice (some ⟨g', 0, none⟩) (xs.length + ba.size) cap)
                ⟨rfl, rfl, rfl, Nat.le_of_eq (setRow_size c.w g' cs1).symm, fun k _ hk => setRow_other c.w g' k _ (fun e => hk (by rw [hv, e]; rfl))⟩ (fun n hn => .inl (by rw [hv]; exact hn)) (.typed e' (.int .u8) (xs ++ u8s ba.data.toList)) (fun n hn => ownBlock_blk hn)
                (fun c' hw hφ he => by
                  refine ⟨vs ++ byteCells ba, ⟨?_, .inr ⟨g', cap, cs1, fz, by rw [hφ, hxl], by rw [hw]; exact setRow_heap c.w g' cur _ e' _ hheap, by rw [hcs1]; rw [show (cur.toList.take (xs.length * (UC.int .u8).size) ++ byteCells ba ++ cur.toList.drop (xs.length * (UC.int .u8).size + (byteCells ba).length)).toArray.size = cur.size from by simp only [List.size_toArray, List.length_append, List.length_take, List.length_drop, Array.length_toList]; omega]; exact hfz, by rw [← hxl]; exact hroom, hcm, ?_, ?_⟩⟩, hall⟩
                  · rw [← hall.length, flat_length]
                  · rw [← hcs, hcs1]
                    simp only [List.size_toArray, List.length_append, List.length_take, List.length_drop, Array.length_toList]; omega
                  · rw [hcs1, List.toList_toArray, htake, ← hall.length.symm.trans (flat_length _ _)]
                    exact List.take_left)
              refine ⟨_, c', by rw [hw]; exact hr, hext, ?_, hh⟩
              simp only [VSim]
              exact ⟨hk, hφ.symm, _, _, _, rfl⟩
            · obtain ⟨_, _, _, _, _, _, _, hcv⟩ := ownsRow_cells ho (show blkOf (c.φ old) = some g' by rw [hv]; rfl)
              have hr := run_append_grow_src (P := P) c.w t t' ty e' info z hu hinf hz (some ⟨g', 0, none⟩) xs.length cap vs
                (run_firstCells_some c.w.drew info.size xs.length ⟨g', 0, none⟩ xs.length cap vs (by rw [hsz, hju]; exact ho.1) (fun j v hj => by rw [Addr.add_lit]; exact hcv j v hj))
                (.string ba) ba.size (byteCells ba) hsrc (by omega) (by omega)
                (growslice_fits (by omega) (by rw [hby]; exact hb1))
              rw [hxl] at hr
              exact good_drop (grown (u := .int .u8) (zs := xs ++ u8s ba.data.toList) (all := vs ++ byteCells ba) (old := cap) hzl hall hmax (by rw [← hxl]; omega) (by simpa using hr))
      · simp at hd
    · simp at hd
  · simp at hd

end

end Go.Proofs.Ytilfdpllleninaa
