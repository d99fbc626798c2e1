/- The engine, part G: new memory. -/
import Derived.Test.YtilfdpllleninaaEngF
import Derived.ArgAppend
namespace Go.Proofs.Ytilfdpllleninaa
set_option linter.unusedVariables false
set_option linter.unusedSimpArgs false

section
variable {P : Program} {w0 : World} {X : Nat → Prop} {h : Nat → Option Blk} {N : Nat → Prop} {c : Cx} {tm : Nat → PV} {a : Act}

/-- A box is made. -/
theorem made_box (hs : HSim w0 X h c) {id : Nat} (hN : N id) (hid : ¬ c.K id) {cs : List PV} {arr : Array Value} (hc : VSims c cs arr.toList) {t : TypeId} {r : Result Value} (hr : r = .ok (.pointer (some ⟨c.w.heap.size, 0, none⟩)) (c.w.alloc (.cells arr t))) :
    Good w0 X h [(id, some (.cells cs))] N c (.ptr id 0) r := by
  obtain ⟨c', hw, hφ, hK, he, hh⟩ := hs.made id hid c.w _ (.cells arr t) (.inl rfl) rfl (.pointer (some ⟨c.w.heap.size, 0, none⟩)) rfl (.cells cs) (fun c' hw hφ he => ⟨_, arr, t, hφ, by rw [hw]; exact heap_alloc_new c.w _, VSims.ext (he (fun _ => True) trivial) hc⟩)
  refine ⟨_, c', by rw [hr, hw], he N hN, ?_, hh⟩
  simp only [VSim]
  exact ⟨hK, _, hφ, rfl⟩

theorem zsims (c : Cx) {ps : List PV} {vs : List Value} (h : All2 ZSim ps vs) : VSims c ps vs := (VSims_iff c ps vs).2 (h.mono fun _ _ hz => hz c)

theorem alloc_good (hs : HSim w0 X h c) {id : Nat} (hN : N id) (hid : ¬ c.K id) {t : TypeId} {i : TI} (hT : TIOK P t i) : Good w0 X h [(id, some (.cells i.zero))] N c (.ptr id 0) ((Instr.alloc t true (.tuple #[])).run P c.w) := by
  obtain ⟨z, hz, hzs⟩ := hT.zeroValue c.w
  exact made_box hs hN hid (zsims c hzs) (by simp [Instr.alloc, hz, newVar, newRow]; rfl)

theorem box_good (hs : HSim w0 X h c) {id : Nat} (hN : N id) (hid : ¬ c.K id) {t : TypeId} {p : PV} {v : Value} (hv : VSim c p v) {cs : List PV} (hc : p.cellsOf = some cs) : Good w0 X h [(id, some (.cells cs))] N c (.ptr id 0) ((Instr.box t v).run P c.w) :=
  made_box (t := t) hs hN hid (cellsOf_sim hv hc) (by simp [Instr.box, newVar, newRow])

/-! ## Parts -/

theorem fold_over : ∀ (us : List Value) (j off : Nat) (cs : Array Value), off + j + us.length ≤ cs.size →
    (((us.zipIdx j).foldl (fun cs (c, j) => cs.setIfInBounds (off + j) c) cs).toList = cs.toList.take (off + j) ++ us ++ cs.toList.drop (off + j + us.length))
  | [], j, off, cs, _ => by simp
  | u :: us, j, off, cs, hl => by
    simp only [List.zipIdx_cons, List.foldl_cons]
    have hl' : off + j + (us.length + 1) ≤ cs.size := by simpa using hl
    rw [fold_over us (j + 1) off (cs.setIfInBounds (off + j) u) (by simp; omega)]
    rw [Array.toList_setIfInBounds]
    have := list_seg_step cs.toList (off + j) u us (by simp; omega)
    rw [show off + (j + 1) = off + j + 1 from by omega]
    simpa using this

theorem foldA (us : Array Value) (off : Nat) (cs : Array Value) (hl : off + us.size ≤ cs.size) :
    (us.zipIdx.foldl (fun cs (c, j) => cs.setIfInBounds (off + j) c) cs).toList = cs.toList.take off ++ us.toList ++ cs.toList.drop (off + us.toList.length) := by
  have := fold_over us.toList 0 off cs (by simpa using hl)
  rw [← Array.foldl_toList, Array.toList_zipIdx]
  simpa using this

theorem fill_sim {pl : Nat → Option (Nat × Nat)} : ∀ {ps : List (Nat × PV)} {vs : List (Nat × Value)} {cs : List PV} {arr : Array Value} {rs : List PV}, Parts c ps vs → VSims c cs arr.toList → fillR pl cs ps = some rs →
    ∃ res, Instr.fill pl arr vs = some res ∧ VSims c rs res.toList
  | [], [], cs, arr, rs, _, hc, hf => by
    simp only [fillR, Option.some.injEq] at hf
    subst hf
    exact ⟨arr, rfl, hc⟩
  | (i, p) :: ps, (i', v) :: vs, cs, arr, rs, hp, hc, hf => by
    obtain ⟨⟨hi, hv⟩, hrest⟩ := hp
    simp only at hi hv
    subst hi
    simp only [fillR] at hf
    cases hpl : pl i with
    | none => rw [hpl] at hf; cases hf
    | some os =>
      obtain ⟨off, size⟩ := os
      rw [hpl] at hf
      simp only at hf
      cases hws : p.cellsOf with
      | none => rw [hws] at hf; cases hf
      | some ws =>
        rw [hws] at hf
        simp only at hf
        rw [cond_eq_ite] at hf
        split at hf
        · rename_i hcond
          rw [and_true_iff] at hcond
          have hl := eq_of_beq hcond.1
          have hk := Nat.le_of_ble_eq_true hcond.2
          have hsim := cellsOf_sim hv hws
          have hlen := ((VSims_iff c _ _).1 hsim).length
          have hlenc := ((VSims_iff c _ _).1 hc).length
          have h1 : v.cells.size = size := by have : v.cells.toList.length = v.cells.size := by simp
                                              omega
          have h2 : off + v.cells.size ≤ arr.size := by have : arr.toList.length = arr.size := by simp
                                                        omega
          have hc' : VSims c (over cs off ws) (v.cells.zipIdx.foldl (fun cs (c, j) => cs.setIfInBounds (off + j) c) arr).toList := by
            rw [foldA v.cells off arr h2]
            exact over_sim hc hsim off
          obtain ⟨res, hr, hs⟩ := fill_sim hrest hc' hf
          refine ⟨res, ?_, hs⟩
          simp only [Instr.fill, hpl]
          rw [if_neg (by simp; omega)]
          exact hr
        · cases hf
  | [], _ :: _, _, _, _, hp, _, _ => hp.elim
  | _ :: _, [], _, _, _, hp, _, _ => hp.elim

theorem sizes_spec {T : TT} (hTT : TTOK P T) : ∀ {fields : List Field} {pl : List (Nat × Nat)}, sizes T (fields.map fun f => (f.offset, f.type)) = some pl → fields.mapM (fun f => (P.info? f.type).map fun i => (f.offset, i.size)) = some pl
  | [], pl, hs => by simp [sizes] at hs; subst hs; simp
  | f :: fs, pl, hs => by
    simp only [List.map_cons, sizes] at hs
    split at hs
    · rename_i i l h1 h2
      cases hs
      obtain ⟨info, z, hi, hsz, _⟩ := (hTT f.type i h1).inf
      simp [List.mapM_cons, sizes_spec hTT h2, hi, hsz]
    · cases hs

theorem lget_eq {α : Type} : ∀ (l : List α) (n : Nat), lget l n = l[n]?
  | [], n => by simp [lget]
  | x :: xs, 0 => by simp [lget]
  | x :: xs, n + 1 => by simp [lget, lget_eq xs n]

theorem build_struct_good (hs : HSim w0 X h c) {T : TT} (hTT : TTOK P T) {t : TypeId} {i : TI} (hT : TIOK P t i) {fs : List (Nat × TypeId)} (hfs : i.d = .struct fs) {pl : List (Nat × Nat)} (hpl : sizes T fs = some pl)
    {ps : List (Nat × PV)} {vs : Array (Nat × Value)} (hp : Parts c ps vs.toList) {rs : List PV} (hf : fillR (lget pl) i.zero ps = some rs) : Good w0 X h [] N c (.agg rs) ((Instr.build t vs).run P c.w) := by
  obtain ⟨info, z, hi, hsz, _, hz, hzs⟩ := hT.inf
  have hd := hT.d
  rw [hfs] at hd
  obtain ⟨fields, hu, hmap⟩ := hd
  rw [← hmap] at hpl
  have hm := sizes_spec hTT hpl
  obtain ⟨res, hr, hsim⟩ := fill_sim hp (zsims c hzs) hf
  refine good_pure hs (v := .agg res) (run_build c.w t vs res ?_) (by simp only [VSim]; exact ⟨res, rfl, hsim⟩)
  have e : (fun i => lget pl i) = (pl.toArray[·]?) := by funext n; rw [lget_eq]; simp
  simp only [Program.built, hi, hu, hz, hm]
  rw [← e]
  exact hr

theorem build_arr_good (hs : HSim w0 X h c) {t e : TypeId} {i j : TI} (hT : TIOK P t i) (hE : TIOK P e j) {n : Nat} (ha : i.d = .arr n e)
    {ps : List (Nat × PV)} {vs : Array (Nat × Value)} (hp : Parts c ps vs.toList) {rs : List PV} (hf : fillR (fun n => some (n * j.sz, j.sz)) i.zero ps = some rs) : Good w0 X h [] N c (.agg rs) ((Instr.build t vs).run P c.w) := by
  obtain ⟨info, z, hi, hsz, _, hz, hzs⟩ := hT.inf
  obtain ⟨info', z', hi', hsz', _⟩ := hE.inf
  have hd := hT.d
  rw [ha] at hd
  have hu : P.underlying t = some (.array n e) := hd
  obtain ⟨res, hr, hsim⟩ := fill_sim hp (zsims c hzs) hf
  refine good_pure hs (v := .agg res) (run_build c.w t vs res ?_) (by simp only [VSim]; exact ⟨res, rfl, hsim⟩)
  simp only [Program.built, hi, hu, hz, hi', hsz']
  exact hr

/-! ## Slices -/

theorem UC.size_pos (u : UC) : 0 < u.size := by cases u <;> simp [UC.size]

theorem chunks_flat (u : UC) : ∀ (n : Nat) (l : List PV) (xs : List u.T), chunks u n l = some xs → flat u xs = l ∧ xs.length = n
  | 0, [], xs, hc => by simp [chunks] at hc; subst hc; exact ⟨rfl, rfl⟩
  | 0, _ :: _, xs, hc => by simp [chunks] at hc
  | n + 1, l, xs, hc => by
    simp only [chunks] at hc
    split at hc
    · rename_i x hx
      split at hc
      · rename_i ys hys
        cases hc
        obtain ⟨h1, h2⟩ := chunks_flat u n _ _ hys
        refine ⟨?_, by simp [h2]⟩
        simp only [flat]
        rw [h1, UC.enc_dec u _ x hx, List.take_append_drop]
      · cases hc
    · cases hc

theorem scalars_flat (u : UC) : ∀ (xs : List u.T), scalars (flat u xs) = true
  | [] => rfl
  | x :: xs => by
    have key : ∀ (a b : List PV), scalars a = true → scalars b = true → scalars (a ++ b) = true := by
      intro a
      induction a with
      | nil => intro b _ hb; exact hb
      | cons p a ih => intro b ha hb; cases p <;> simp only [List.cons_append, scalars, Bool.false_eq_true] at ha ⊢ <;> exact ih b ha hb
    exact key _ _ (scalars_enc u x) (scalars_flat u xs)

/-- A slice is made: a new row whose first cells are the elements. -/
theorem made_slice (hs : HSim w0 X h c) {id : Nat} (hN : N id) (hid : ¬ c.K id) {e : TypeId} {u : UC} {xs : List u.T} {arr : Array Value} {cap : Nat} {vs : List Value} (hsz : arr.size = cap * u.size) (hn : xs.length ≤ cap) (hcap : cap ≤ maxLen)
    (ht : arr.toList.take (xs.length * u.size) = vs) (hc : All2 SSim (flat u xs) vs) {w1 : World} (hw1 : w1 = c.w ∨ w1 = c.w.drew) {r : Result Value} (hr : r = .ok (.slice (some ⟨c.w.heap.size, 0, none⟩) xs.length cap) (w1.alloc (.cells arr e))) :
    Good w0 X h [(id, some (.typed e u xs))] N c (.own id) r := by
  have hh1 : w1.heap = c.w.heap := by rcases hw1 with rfl | rfl <;> rfl
  have hl : vs.length = xs.length * u.size := by rw [← hc.length, flat_length]
  obtain ⟨c', hw, hφ, hK, he, hh⟩ := hs.made id hid w1 _ (.cells arr e) hw1 rfl (.slice (some ⟨c.w.heap.size, 0, none⟩) xs.length cap) rfl (.typed e u xs) (fun c' hw hφ he =>
    ⟨vs, ⟨hl, .inr ⟨c.w.heap.size, cap, arr, (0, 0), hφ, by rw [hw, ← hh1]; exact heap_alloc_new w1 _, .inl rfl, hn, hcap, hsz, ht⟩⟩, hc⟩)
  refine ⟨_, c', by rw [hr, hw], he N hN, ?_, hh⟩
  simp only [VSim]
  exact ⟨hK, hφ.symm, _, _, _, rfl⟩

theorem repl_sim (c : Cx) {ps : List PV} {z : Array Value} (hz : VSims c ps z.toList) : ∀ (n : Nat), VSims c (repl ps n) ((Array.range (n * ps.length)).map (z[· % z.size]!)).toList
  | 0 => by simp [repl, VSims]
  | n + 1 => by
    have hz' := (VSims_iff c _ _).1 hz
    have hl : ps.length = z.size := by have := hz'.length; simpa using this
    have ih := (VSims_iff c _ _).1 (repl_sim c hz n)
    refine (VSims_iff c _ _).2 ?_
    simp only [repl]
    have e : ((Array.range ((n + 1) * ps.length)).map (z[· % z.size]!)).toList = z.toList ++ ((Array.range (n * ps.length)).map (z[· % z.size]!)).toList := by
      rw [hl]
      apply List.ext_getElem
      · simp [Nat.add_mul]; omega
      · intro k h1 h2
        simp only [Array.toList_map, Array.toList_range, List.getElem_map, List.getElem_range]
        rw [List.getElem_append]
        split
        · rename_i hk
          have hk' : k < z.size := by simpa using hk
          rw [Nat.mod_eq_of_lt hk', getElem!_pos z k hk']
          simp
        · rename_i hk
          have hk' : ¬ k < z.size := by simpa using hk
          simp only [List.getElem_map, List.getElem_range, Array.length_toList]
          congr 1
          rw [Nat.mod_eq_sub_mod (by omega)]
    rw [e]
    exact hz'.append ih

theorem buildSlice_good (hs : HSim w0 X h c) {id : Nat} (hN : N id) (hid : ¬ c.K id) {t e : TypeId} {i j : TI} (hT : TIOK P t i) (hE : TIOK P e j) (hd : i.d = .slc e) {len : Nat} {ps : List (Nat × PV)} {vs : Array (Nat × Value)} (hp : Parts c ps vs.toList)
    {cs : List PV} (hf : fillR (fun n => some (n * j.sz, j.sz)) (repl j.zero len) ps = some cs) {u : UC} {xs : List u.T} (hx : chunks u len cs = some xs) (hb : len * j.sz ≤ 16777216) (hju : j.sz = u.size) (hjz : j.zero.length = j.sz) :
    Good w0 X h [(id, some (.typed e u xs))] N c (.own id) ((Instr.buildSlice t len vs).run P c.w) := by
  have hu := hT.d
  rw [hd] at hu
  have hu : P.underlying t = some (.slice e) := hu
  obtain ⟨z, hz, hzs⟩ := hE.zeroValue c.w
  have hrep := repl_sim c (zsims c hzs) len
  rw [hjz] at hrep
  have hzsz : z.cells.size = j.sz := by have := (hzs).length; simp at this; omega
  obtain ⟨res, hr, hsim⟩ := fill_sim hp hrep hf
  obtain ⟨hfl, hlen⟩ := chunks_flat u len cs xs hx
  have hsim' : All2 SSim (flat u xs) res.toList := by
    rw [hfl]
    exact SSims_of hsim (by rw [← hfl]; exact scalars_flat u xs)
  have hrl : res.size = len * u.size := by have := hsim'.length; rw [flat_length, hlen] at this; simpa using this.symm
  have hmax : len ≤ maxLen := by
    unfold maxLen
    have := Nat.le_mul_of_pos_right len (UC.size_pos u)
    rw [hju] at hb
    omega
  refine made_slice hs hN hid (arr := res) (cap := len) (w1 := c.w) hrl (by omega) hmax (by rw [List.take_of_length_le (by simp; rw [hrl, hlen]; omega)]) hsim' (.inl rfl) ?_
  rw [hlen]
  by_cases h0 : len * j.sz = 0
  · have he : (Array.range (len * j.sz)).map (z.cells[· % z.cells.size]!) = #[] := by rw [h0]; simp [Array.range_zero']
    have hr' : Instr.fill (fun i => some (i * j.sz, j.sz)) #[] vs.toList = some res := by rw [← he]; exact hr
    simp [Instr.buildSlice, run_underlying hu, hE.sizeOf, h0, hr', newRow, Array.range_zero']
  · have hb' : ¬ 16777216 < len * j.sz := by omega
    simp [Instr.buildSlice, run_underlying hu, hE.sizeOf, h0, hb', hz, hr, newRow]

/-- A slice of slices, as the text spells it. -/
theorem buildLst_good (hs : HSim w0 X h c) {t e : TypeId} {i j : TI} (hT : TIOK P t i) (hE : TIOK P e j) (hd : i.d = .slc e) {len : Nat} {ps : List (Nat × PV)} {vs : Array (Nat × Value)} (hp : Parts c ps vs.toList)
    {cs : List PV} (hf : fillR (fun n => some (n * j.sz, j.sz)) (repl j.zero len) ps = some cs) (hb : len * j.sz ≤ 16777216) (hju : j.sz = 1) (hjz : j.zero.length = j.sz) (hl : cs.length = len) (h0 : 0 < len) :
    Good w0 X h [] N c (.lst cs) ((Instr.buildSlice t len vs).run P c.w) := by
  have hu := hT.d
  rw [hd] at hu
  have hu : P.underlying t = some (.slice e) := hu
  obtain ⟨z, hz, hzs⟩ := hE.zeroValue c.w
  have hrep := repl_sim c (zsims c hzs) len
  rw [hjz] at hrep
  have hzsz : z.cells.size = j.sz := by have := (hzs).length; simp at this; omega
  obtain ⟨res, hr, hsim⟩ := fill_sim hp hrep hf
  have hrun : (Instr.buildSlice t len vs).run P c.w = .ok (.slice (some ⟨c.w.heap.size, 0, none⟩) len len) (c.w.alloc (.cells res e)) := by
    have hb' : ¬ 16777216 < len * j.sz := by omega
    have h0' : ¬ len * j.sz = 0 := by rw [hju]; omega
    simp [Instr.buildSlice, run_underlying hu, hE.sizeOf, h0', hb', hz, hr, newRow]
  have hold : ∀ n, n < c.w.heap.size → (c.w.alloc (.cells res e)).heap[n]? = c.w.heap[n]? := fun n hn => heap_alloc_old _ _ _ hn
  let c' : Cx := { c with w := c.w.alloc (.cells res e), pr := fun n => c.pr n ∨ n = c.w.heap.size }
  have ext : ∀ N, Ext N c c' := fun N => ⟨fun n hn => ⟨hn, rfl⟩, fun n hn => .inl hn, fun n hn => ⟨.inl hn, hold n (hs.prlt n hn)⟩, rfl⟩
  refine ⟨_, c', hrun, ext N, ?_, ?_⟩
  · simp only [VSim]
    refine ⟨c.w.heap.size, res.toList, by rw [hl], .inr rfl, fun k u hk => ?_, hsim.ext (ext N)⟩
    rw [Nat.zero_add]
    rw [cell_of_row _ c.w.heap.size k res e (0, 0) (heap_alloc_new c.w _)]
    simpa using hk
  · refine ⟨fun id b hb => ⟨(hs.blk id b hb).1, (hs.blk id b hb).2.keep (ext fun _ => True) (hs.blk id b hb).1 fun n hn => hold n ((hs.blk id b hb).2.lt hn)⟩, fun id b n hb hn => ⟨(hs.lo id b n hb hn).1, fun hp => ?_⟩, hs.inj, fun n hn hx => (hold n (Nat.lt_of_lt_of_le hn hs.sz)).trans (hs.fr n hn hx), hs.os, hs.tape, hs.output, ?_, fun n hn => ?_, hs.iv⟩
    · rcases hp with hp | hp
      · exact (hs.lo id b n hb hn).2 hp
      · have := (hs.blk id b hb).2.lt hn
        omega
    · show w0.heap.size ≤ (c.w.alloc (.cells res e)).heap.size
      rw [World.size_alloc]
      have := hs.sz
      omega
    · show n < (c.w.alloc (.cells res e)).heap.size
      rw [World.size_alloc]
      rcases hn with hn | hn
      · have := hs.prlt n hn
        omega
      · omega

theorem madeCells_take (z : Array Value) : ∀ (n m : Nat), n ≤ m → ((madeCells z (m * z.size)).toList.take (n * z.size)) = (madeCells z (n * z.size)).toList := by
  intro n m hnm
  have hle : n * z.size ≤ m * z.size := Nat.mul_le_mul_right _ hnm
  unfold madeCells
  apply List.ext_getElem
  · rw [List.length_take]
    simp only [Array.length_toList, Array.size_map, Array.size_range]
    omega
  · intro k h1 h2
    simp

theorem repl_flat (u : UC) (x : u.T) : ∀ n, repl (u.enc x) n = flat u (List.replicate n x)
  | 0 => rfl
  | n + 1 => by simp only [repl, List.replicate_succ, flat, repl_flat u x n]

theorem makeSlice_good (hs : HSim w0 X h c) {id : Nat} (hN : N id) (hid : ¬ c.K id) {t e : TypeId} {i j : TI} (hT : TIOK P t i) (hE : TIOK P e j) (hd : i.d = .slc e) {u : UC} {z : u.T} (hz : u.dec j.zero = some z) (hju : j.sz = u.size)
    {kl kc : IntKind} {n m : Int} (h0 : 0 ≤ n) (h1 : n ≤ m) (hb : (j.bytes : Int) * m ≤ 281474976710656) (hm : m ≤ 9223372036854775807) :
    Good w0 X h [(id, some (.typed e u (List.replicate n.toNat z)))] N c (.own id) ((Instr.makeSlice t (.int kl n) (.int kc m)).run P c.w) := by
  have hu := hT.d
  rw [hd] at hu
  have hu : P.underlying t = some (.slice e) := hu
  obtain ⟨info, zv, hi, hsz, hby, hzv, hzs⟩ := hE.inf
  have hrun := run_make (P := P) c.w t e info zv hu hi hzv kl kc n m h0 h1 (by rw [hby]; exact hb) hm
  have henc := UC.enc_dec u _ z hz
  have hzl : zv.cells.size = u.size := by
    have := hzs.length
    rw [← henc, UC.enc_length] at this
    simpa using this.symm
  have hS : ∀ n : Nat, All2 SSim (flat u (List.replicate n z)) (madeCells zv.cells (n * zv.cells.size)).toList := fun n => by
    have h1 := repl_sim c (zsims c hzs) n
    rw [← henc, repl_flat, UC.enc_length, ← hzl] at h1
    exact SSims_of h1 (scalars_flat u _)
  have hmn : (m.toNat : Int) ≤ 9223372036854775807 := by omega
  refine made_slice hs hN hid (arr := madeCells zv.cells (m.toNat * info.size)) (cap := m.toNat) (vs := (madeCells zv.cells (n.toNat * zv.cells.size)).toList) (w1 := c.w) ?_ ?_ ?_ ?_ ?_ (.inl rfl) ?_
  · rw [size_madeCells, hsz, hju]
  · rw [List.length_replicate]; omega
  · unfold maxLen; omega
  · rw [List.length_replicate, hsz, hju, ← hzl]; exact madeCells_take zv.cells n.toNat m.toNat (by omega)
  · exact hS n.toNat
  · rw [List.length_replicate]; exact hrun

/-! ## append -/

/-- A block takes another's place: the row that held it has grown, or lies elsewhere now. -/
theorem HSim.moved (hs : HSim w0 X h c) {id new : Nat} (hN : N new) (hid : ¬ c.K new) {b0 : Blk} (h0 : h id = some b0) {w' : World} {v : Value} (hg : c.w.grownBy w' (c.φ id).ownBlock)
    (hv : ∀ n, blkOf v = some n → blkOf (c.φ id) = some n ∨ c.w.heap.size ≤ n) (b : Blk) (hφb : ∀ n, (c.φ id).ownBlock = some n → blkOf (c.φ id) = some n)
    (hb : ∀ c' : Cx, c'.w = w' → c'.φ new = v → Ext N c c' → BSim c' new b) :
    ∃ c' : Cx, c'.w = w' ∧ c'.φ new = v ∧ c'.K new ∧ Ext N c c' ∧ HSim w0 X (updH h [(id, none), (new, some b)]) c' := by
  have hold : ∀ n, n < c.w.heap.size → blkOf (c.φ id) ≠ some n → w'.heap[n]? = c.w.heap[n]? := fun n hn hne => hg.block n hn fun e => hne (hφb n e.symm)
  have hne : ∀ n, c.K n → n ≠ new := fun n hn e => hid (e ▸ hn)
  let c' : Cx := { w := w', pr := c.pr, φ := fun n => if n = new then v else c.φ n, K := fun n => c.K n ∨ n = new, ar := c.ar }
  have hφ : c'.φ new = v := if_pos rfl
  have hpr : ∀ n, c.pr n → w'.heap[n]? = c.w.heap[n]? := fun n hn => hold n (hs.prlt n hn) fun e => (hs.lo id b0 n h0 e).2 hn
  have e : Ext N c c' := ⟨fun n hn => ⟨.inl hn, if_neg (hne n hn)⟩, fun n hn => hn.imp (fun a => a) (fun a => by rw [a]; exact hN), fun n hn => ⟨hn, hpr n hn⟩, rfl⟩
  have look : ∀ n b', updH h [(id, none), (new, some b)] n = some b' → (n = new ∧ b' = b) ∨ (n ≠ new ∧ n ≠ id ∧ h n = some b') := fun n b' hn => by
    simp only [updH, cond_eq_ite, beq_iff_eq] at hn
    by_cases q : n = new
    · rw [if_pos q] at hn; exact .inl ⟨q, (Option.some.inj hn).symm⟩
    · rw [if_neg q] at hn
      by_cases q' : n = id
      · rw [if_pos q'] at hn; cases hn
      · rw [if_neg q'] at hn; exact .inr ⟨q, q', hn⟩
  have keep : ∀ n b', n ≠ id → h n = some b' → ∀ m, blkOf (c.φ n) = some m → w'.heap[m]? = c.w.heap[m]? := fun n b' hni hn m hm =>
    hold m ((hs.blk n b' hn).2.lt hm) fun e => hni (hs.inj n id b' b0 m hn h0 hm e)
  refine ⟨c', rfl, hφ, .inr rfl, e, fun n b' hn => ?_, fun n b' m hn hm => ?_, fun i j bi bj n hi hj hbi hbj => ?_, fun n hn hx => ?_, hg.os.trans hs.os, hg.tape.trans hs.tape, hg.output.trans hs.output, Nat.le_trans hs.sz hg.size, fun n hn => Nat.lt_of_lt_of_le (hs.prlt n hn) hg.size, hs.iv⟩
  · rcases look n b' hn with ⟨rfl, rfl⟩ | ⟨q, q', hn⟩
    · exact ⟨.inr rfl, hb c' rfl hφ e⟩
    · have hk := hs.blk n b' hn
      exact ⟨.inl hk.1, hk.2.keep e hk.1 (keep n b' q' hn)⟩
  · rcases look n b' hn with ⟨rfl, rfl⟩ | ⟨q, q', hn⟩
    · rw [hφ] at hm
      rcases hv m hm with hm' | hm'
      · exact hs.lo id b0 m h0 hm'
      · exact ⟨.inl (Nat.le_trans hs.sz hm'), fun hp => by have := hs.prlt m hp; omega⟩
    · have hk := hs.blk n b' hn
      rw [(e.ids n hk.1).2] at hm
      exact hs.lo n b' m hn hm
  · have key : ∀ i j bj, i = new → updH h [(id, none), (new, some b)] j = some bj → blkOf (c'.φ i) = some n → blkOf (c'.φ j) = some n → i = j := fun i j bj hi hj hbi hbj => by
      subst hi
      rcases look j bj hj with ⟨rfl, rfl⟩ | ⟨q, q', hj⟩
      · rfl
      · have hk := hs.blk j bj hj
        rw [hφ] at hbi
        rw [(e.ids j hk.1).2] at hbj
        rcases hv n hbi with hm' | hm'
        · exact absurd (hs.inj j id bj b0 n hj h0 hbj hm') q'
        · have := hk.2.lt hbj; omega
    rcases look i bi hi with ⟨q, _⟩ | ⟨qi, qi', hi'⟩
    · exact key i j bj q hj hbi hbj
    · rcases look j bj hj with ⟨q, _⟩ | ⟨qj, qj', hj'⟩
      · exact (key j i bi q hi hbj hbi).symm
      · rw [(e.ids i (hs.blk i bi hi').1).2] at hbi
        rw [(e.ids j (hs.blk j bj hj').1).2] at hbj
        exact hs.inj i j bi bj n hi' hj' hbi hbj
  · show w'.heap[n]? = w0.heap[n]?
    have hlt := Nat.lt_of_lt_of_le hn hs.sz
    by_cases q : blkOf (c.φ id) = some n
    · rcases (hs.lo id b0 n h0 q).1 with hl | hl
      · omega
      · exact absurd hl hx
    · exact (hold n hlt q).trans (hs.fr n hn hx)

/-- What is appended, as the model finds it. -/
theorem srcR_sim (hs : HSim w0 X h c) {u : UC} {p : PV} {v : Value} (hp : VSim c p v) {ys : List u.T} (hd : Does tm h (srcR u p) ys) :
    ∃ a m, v = .slice a ys.length m ∧ (ys ≠ [] → ∃ b off vs, a = some ⟨b, off, none⟩ ∧ CellsAt c.w b off vs ∧ All2 SSim (flat u ys) vs) := by
  unfold srcR at hd
  split at hd
  · simp only [does_ret] at hd
    subst hd
    simp only [VSim] at hp
    exact ⟨none, 0, hp, fun e => absurd rfl e⟩
  · simp only [does_lift] at hd
    obtain ⟨e, hd⟩ := UC.cast_eq _ _ _ _ hd
    subst e
    subst hd
    simp only [VSim] at hp
    obtain ⟨_, a, m, rfl, _, hw⟩ := hp
    refine ⟨a, m, rfl, fun hne => ?_⟩
    obtain ⟨b, off, ha, _, vs, hc, hS⟩ := hw hne
    exact ⟨b, off, vs, ha, hc, hS⟩
  · simp only [does_bind, does_blk] at hd
    obtain ⟨b, rfl, hd⟩ := hd
    split at hd
    · rename_i hb
      simp only [does_lift] at hd
      obtain ⟨e, hd⟩ := UC.cast_eq _ _ _ _ hd
      subst e
      subst hd
      simp only [VSim] at hp
      obtain ⟨_, rfl, _⟩ := hp
      obtain ⟨_, vs, ho, hS⟩ := hs.blk _ _ hb
      rcases ho.2 with ⟨hv, hn⟩ | ⟨g, cap, cur, fz, hv, _⟩
      · refine ⟨none, 0, by rw [hv, hn], fun hne => absurd (List.eq_nil_of_length_eq_zero hn) hne⟩
      · obtain ⟨_, _, _, _, _, _, _, hc⟩ := ownsRow_cells ho (show blkOf (c.φ _) = some g by rw [hv]; rfl)
        exact ⟨_, _, hv, fun _ => ⟨g, 0, vs, rfl, hc, hS⟩⟩
    · simp at hd
  · rename_i id sz lo n
    simp only [does_bind, does_blk] at hd
    obtain ⟨b, rfl, hd⟩ := hd
    split at hd
    · rename_i d ys' hb
      simp only [does_bind, does_need, decide_eq_true_eq] at hd
      obtain ⟨_, hle, hd⟩ := hd
      rw [cond_eq_ite] at hd
      split at hd
      · rename_i hsz
        have hsz := eq_of_beq hsz
        subst hsz
        simp only [does_lift] at hd
        obtain ⟨e, hd⟩ := UC.cast_eq _ _ _ _ hd
        subst e
        subst hd
        simp only [VSim] at hp
        obtain ⟨_, a, m, rfl, _, hne, _⟩ := hp
        obtain ⟨_, vs, ho, hS⟩ := hs.blk _ _ hb
        have hl : ((ys'.drop lo).take n).length = n := by rw [List.length_take, List.length_drop]; omega
        refine ⟨a, m, by rw [hl], fun hne' => ?_⟩
        obtain ⟨g, l, m', hf, rfl⟩ := hne (fun e => by rw [e] at hne'; simp at hne')
        obtain ⟨_, _, _, _, _, _, _, hc⟩ := ownsRow_cells ho (show blkOf (c.φ _) = some g by rw [hf]; rfl)
        refine ⟨g, lo * d.size, (vs.drop (lo * d.size)).take (n * d.size), rfl, ?_, ?_⟩
        · have := hc.part (lo * d.size) (n * d.size)
          rw [Nat.zero_add] at this
          exact this
        · show All2 SSim (flat d ((ys'.drop lo).take n)) _
          rw [flat_take, flat_drop]
          exact (hS.drop _).take _
      · simp at hd
    · simp at hd
  · simp at hd

theorem SSim.one {p : PV} {v : Value} (h : SSim p v) : v.oneCell' = true := by
  cases p <;> simp only [SSim] at h
  · subst h; rfl
  · subst h; rfl
  · obtain ⟨_, rfl, _⟩ := h; rfl
  · obtain ⟨_, _, rfl, _⟩ := h; rfl
  · obtain ⟨_, rfl, _⟩ := h; rfl

theorem All2.right {α β : Type} {R : α → β → Prop} {Q : β → Prop} (hq : ∀ x y, R x y → Q y) : ∀ {xs : List α} {ys : List β}, All2 R xs ys → ∀ y ∈ ys, Q y
  | [], [], _, y, hy => by cases hy
  | x :: xs, z :: ys, h, y, hy => by
    cases hy with
    | head => exact hq _ _ h.1
    | tail _ hy => exact All2.right hq h.2 y hy

theorem run_append_zero (w : World) {t e : TypeId} {info : TypeInfo} {ty : TypeId} (hu : P.underlying t = some (.slice e)) (hi : P.info? e = some info) {a b : Option Addr} {n cap m : Nat} (hn : n ≤ cap) :
    (Builtin.append_ #[t, t] ty #[.slice a n cap, .slice b 0 m]).run P w = .ok (.slice a n cap) w := by
  cases a <;> cases b <;> simp [Builtin.append_, run_underlying hu, sizeOf, typeInfo, hi, Builtin.lenOf, Builtin.firstCells, hn, storeCells, loadCells, loadCellsFrom]

theorem ownBlock_blk {v : Value} {n : Nat} (h : v.ownBlock = some n) : blkOf v = some n := by
  cases v <;> simp only [Value.ownBlock, reduceCtorEq] at h
  rename_i a _ _
  cases a
  · simp [Value.ownBlock] at h
  · simpa [Value.ownBlock, blkOf] using h

theorem good_drop {id new : Nat} {b : Blk} {p : PV} {r : Result Value} (hg : Good w0 X h [(new, some b)] N c p r) : Good w0 X h [(id, none), (new, some b)] N c p r := by
  obtain ⟨v, c', hr, he, hv, hh⟩ := hg
  refine ⟨v, c', hr, he, hv, hh.drop fun n b' hn => ?_⟩
  simp only [updH, cond_eq_ite, beq_iff_eq] at hn ⊢
  by_cases q : n = new
  · rw [if_pos q] at hn ⊢; exact hn
  · rw [if_neg q] at hn ⊢
    by_cases q' : n = id
    · rw [if_pos q'] at hn; cases hn
    · rw [if_neg q'] at hn; exact hn

theorem run_append_rowG {P : Program} (w : World) (t ty e : TypeId) (i : TypeInfo) (ht : P.underlying t = some (.slice e)) (hi : P.info? e = some i)
    (g sLen sCap : Nat) (cur : Array Value) {fz : Nat × Nat} (hg : w.heap[g]? = some (.cells cur e fz)) (hfz : FzOK fz cur.size)
    (a : Addr) (m c : Nat) (news : List Value) (hl : news.length = m * i.size) (hnews : ∀ j u, news[j]? = some u → w.cell? (a.add j) = some u) (h1 : ∀ u ∈ news, u.oneCell' = true)
    (hroom : sLen + m ≤ sCap) (hfit : sLen * i.size + news.length ≤ cur.size) :
    (Builtin.append_ #[t, t] ty #[.slice (some ⟨g, 0, none⟩) sLen sCap, .slice (some a) m c]).run P w =
      .ok (.slice (some ⟨g, 0, none⟩) (sLen + m) sCap) (w.setRow g (cur.toList.take (sLen * i.size) ++ news ++ cur.toList.drop (sLen * i.size + news.length)).toArray) := by
  have hr := run_append_room_cells (P := P) (w := w) t ty e i ht hi g 0 sLen sCap a m c news hl hnews h1 hroom (fun j hj => by simp only [World.cell?, hg]; simp; omega) (fun j hj => by rw [Nat.zero_add]; exact frozen_not hg hfz (by omega))
  rw [hr, Nat.zero_add, setCells_row news _ cur w hg hfit]

theorem appendR_good (hs : HSim w0 X h c) {T : TT} (hTT : TTOK P T) {id : Nat} (hN : N id) (hid : ¬ c.K id) {t e ty : TypeId} (hu : P.underlying t = some (.slice e)) {p q : PV} {x y : Value} (hp : VSim c p x) (hq : VSim c q y) {r : OR} (hd : Does tm h (appendR T id e p q) r) :
    Good w0 X h r.wr N c r.v ((Builtin.append_ #[t, t] ty #[x, y]).run P c.w) := by
  unfold appendR at hd
  simp only [does_bind, does_ti] at hd
  obtain ⟨i, hi, hd⟩ := hd
  have hE := hTT e i hi
  obtain ⟨info, z, hinf, hsz, hby, hz, hzs⟩ := hE.inf
  -- the new row
  have grown : ∀ {u : UC} {zs : List u.T} {all : List Value} {old : Nat}, i.zero.length = u.size → All2 SSim (flat u zs) all → zs.length ≤ maxLen → old < zs.length → ∀ {r : Result Value},
      r = .ok (.slice (some ⟨c.w.heap.size, 0, none⟩) zs.length (grownCap c.w zs.length old e)) (c.w.drew.alloc (.cells (all.toArray ++ Builtin.zeroCells z.cells (grownCap c.w zs.length old e - zs.length)) e)) →
      Good w0 X h [(id, some (.typed e u zs))] N c (.own id) r := by
    intro u zs all old hzl hS hmax hold r hr
    have hge := grownCap_ge c.w zs.length old e
    have hcm := grownCap_le_maxLen c.w zs.length old e hmax
    have hzsz : z.cells.size = u.size := by have := hzs.length; rw [hzl] at this; simpa using this.symm
    have hal : all.length = zs.length * u.size := by rw [← hS.length, flat_length]
    refine made_slice hs hN hid (arr := all.toArray ++ Builtin.zeroCells z.cells (grownCap c.w zs.length old e - zs.length)) ?_ hge hcm ?_ hS (.inr rfl) hr
    · simp only [Array.size_append, List.size_toArray, size_zeroCells, hzsz, hal, ← Nat.add_mul]
      congr 1
      omega
    · rw [Array.toList_append, List.toList_toArray, ← hal]
      exact List.take_left
  split at hd
  · rename_i old
    simp only [does_bind, does_blk] at hd
    obtain ⟨b, rfl, hd⟩ := hd
    split at hd
    · rename_i e' u xs hb
      simp only [does_bind, does_need, and_true_iff, decide_eq_true_eq] at hd
      obtain ⟨ys, hys, _, ⟨hb1, hb2⟩, hd⟩ := hd
      rw [cond_eq_ite] at hd
      split at hd
      · rename_i hc
        simp only [and_true_iff] at hc
        obtain ⟨⟨⟨he, hju⟩, hzl⟩, _⟩ := hc
        have he := eq_of_beq he
        have hju := eq_of_beq hju
        have hzl := eq_of_beq hzl
        subst he
        simp only [does_ret] at hd
        subst hd
        simp only [VSim] at hp
        obtain ⟨hK, rfl, _⟩ := hp
        obtain ⟨a, m, rfl, hsrc⟩ := srcR_sim hs hq hys
        obtain ⟨_, vs, ho, hS⟩ := hs.blk old _ hb
        have hmax : (xs ++ ys).length ≤ maxLen := by rw [List.length_append]; unfold maxLen; omega
        by_cases hne : ys = []
        · subst hne
          obtain ⟨a', cap, hx, hcap⟩ : ∃ a' cap, c.φ old = .slice a' xs.length cap ∧ xs.length ≤ cap := by
            rcases ho.2 with ⟨hv, hn⟩ | ⟨g, cap, cur, fz, hv, _, _, hn, _⟩
            · exact ⟨none, 0, by rw [hv, hn], by rw [hn]; exact Nat.le_refl _⟩
            · exact ⟨_, cap, hv, hn⟩
          have hrun := run_append_zero (P := P) c.w (ty := ty) hu hinf (a := a') (b := a) (n := xs.length) (cap := cap) (m := m) hcap
          rw [← hx] at hrun
          obtain ⟨c', hw, hφ, hk, hext, hh⟩ := hs.moved (N := N) hN hid hb (w' := c.w) (v := c.φ old) ⟨rfl, rfl, rfl, Nat.le_refl _, fun _ _ _ => rfl⟩ (fun n hn => .inl hn) (.typed e' u (xs ++ [])) (fun n hn => ownBlock_blk hn)
            (fun c' hw hφ he => ⟨vs, by rw [List.append_nil, hφ, hw]; exact ho, by rw [List.append_nil]; exact hS⟩)
          refine ⟨_, c', by rw [hw]; exact hrun, hext, ?_, hh⟩
          simp only [VSim]
          exact ⟨hk, hφ.symm, _, _, _, hx⟩
        · obtain ⟨g, off, news, rfl, hc, hS2⟩ := hsrc hne
          have hpos : 0 < ys.length := List.length_pos_iff.2 hne
          have hnl : news.length = ys.length * info.size := by rw [← hS2.length, flat_length, hsz, hju]
          have hnews : ∀ j v, news[j]? = some v → c.w.cell? ((⟨g, off, none⟩ : Addr).add j) = some v := fun j u hu => by rw [Addr.add_lit]; exact hc j u hu
          have hall : All2 SSim (flat u (xs ++ ys)) (vs ++ news) := by rw [flat_append]; exact hS.append hS2
          have hxl : xs.length + ys.length = (xs ++ ys).length := List.length_append.symm
          rcases ho.2 with ⟨hv, hn⟩ | ⟨g', cap, cur, fz, hv, hheap, hfz, hcap, hcm, hcs, htake⟩
          · have hxs : xs = [] := List.eq_nil_of_length_eq_zero hn
            subst hxs
            have hvs : vs = [] := List.eq_nil_of_length_eq_zero (by rw [← hS.length]; rfl)
            subst hvs
            rw [hv]
            have hr := run_append_nil (P := P) c.w t ty e' info z hu hinf hz ⟨g, off, none⟩ ys.length m news hnl hnews hpos (by omega) (by rw [hby]; simp at hb1; omega)
            exact good_drop (grown (u := u) (zs := [] ++ ys) (all := [] ++ news) (old := 0) hzl hall hmax (by simpa using hpos) hr)
          · rw [hv]
            by_cases hroom : xs.length + ys.length ≤ cap
            · have hfit : xs.length * info.size + news.length ≤ cur.size := by rw [hnl, hcs, hsz, hju, ← Nat.add_mul]; exact Nat.mul_le_mul_right _ hroom
              have hr := run_append_rowG (P := P) c.w t ty e' info hu hinf g' xs.length cap cur hheap hfz ⟨g, off, none⟩ ys.length m news hnl hnews (fun v hv => hS2.right (fun _ _ h => h.one) v hv) hroom hfit
              have hsz' : info.size = u.size := by rw [hsz, hju]
              rw [hsz'] at hr hfit
              have hvl : vs.length = xs.length * u.size := ho.1
              obtain ⟨cs1, hcs1⟩ : ∃ x, x = (cur.toList.take (xs.length * u.size) ++ news ++ cur.toList.drop (xs.length * u.size + news.length)).toArray := ⟨_, rfl⟩
              rw [← hcs1] at hr
              obtain ⟨c', hw, hφ, hk, hext, hh⟩ := hs.moved (N := N) hN hid hb (w' := c.w.setRow g' cs1) (v := .slice (some ⟨g', 0, none⟩) (xs.length + ys.length) cap)
                ⟨rfl, rfl, rfl, Nat.le_of_eq (setRow_size c.w g' cs1).symm, fun k _ hk => setRow_other c.w g' k _ (fun e => hk (by rw [hv, e]; rfl))⟩ (fun n hn => .inl (by rw [hv]; exact hn)) (.typed e' u (xs ++ ys)) (fun n hn => ownBlock_blk hn)
                (fun c' hw hφ he => by
                  refine ⟨vs ++ news, ⟨?_, .inr ⟨g', cap, cs1, fz, by rw [hφ, hxl], by rw [hw]; exact setRow_heap c.w g' cur _ e' _ hheap, by rw [hcs1]; rw [show (cur.toList.take (xs.length * u.size) ++ news ++ cur.toList.drop (xs.length * u.size + news.length)).toArray.size = cur.size from by simp only [List.size_toArray, List.length_append, List.length_take, List.length_drop, Array.length_toList]; omega]; exact hfz, by rw [← hxl]; exact hroom, hcm, ?_, ?_⟩⟩, hall⟩
                  · rw [← hall.length, flat_length]
                  · rw [← hcs, hcs1]
                    simp only [List.size_toArray, List.length_append, List.length_take, List.length_drop, Array.length_toList]; omega
                  · rw [hcs1, List.toList_toArray, htake, ← hall.length.symm.trans (flat_length u _)]
                    exact List.take_left)
              refine ⟨_, c', by rw [hw]; exact hr, hext, ?_, hh⟩
              simp only [VSim]
              exact ⟨hk, hφ.symm, _, _, _, rfl⟩
            · obtain ⟨_, _, _, _, _, _, _, hcv⟩ := ownsRow_cells ho (show blkOf (c.φ old) = some g' by rw [hv]; rfl)
              have hr := run_append_grow (P := P) c.w t ty e' info z hu hinf hz ⟨g', 0, none⟩ xs.length cap vs (by rw [hsz, hju]; exact ho.1) (fun j v hj => by rw [Addr.add_lit]; exact hcv j v hj) ⟨g, off, none⟩ ys.length m news hnl hnews (by omega) (by omega)
                (growslice_fits (by omega) (by rw [hby]; exact hb1))
              rw [hxl] at hr
              exact good_drop (grown (u := u) (zs := xs ++ ys) (all := vs ++ news) (old := cap) hzl hall hmax (by rw [← hxl]; omega) (by simpa using hr))
      · simp at hd
    · simp at hd
  · simp only [does_bind, does_ask, does_lift] at hd
    obtain ⟨u, _, ys, hys, bq, hbq, hd⟩ := hd
    cases bq with
    | false =>
      simp only [does_ret] at hd
      subst hd
      have h0 : ys = [] := by
        have := of_decide_eq_false hbq
        exact List.eq_nil_of_length_eq_zero (by omega)
      subst h0
      simp only [VSim] at hp
      subst hp
      obtain ⟨a, m, rfl, hsrc⟩ := srcR_sim hs hq hys
      exact good_pure hs (run_append_zero (P := P) c.w (ty := ty) hu hinf (a := none) (b := a) (n := 0) (cap := 0) (m := m) (Nat.le_refl _)) (by simp only [VSim])
    | true =>
    have hpos := of_decide_eq_true hbq
    simp only [does_bind, does_need, and_true_iff, decide_eq_true_eq] at hd
    obtain ⟨_, ⟨hb1, hb2⟩, hd⟩ := hd
    rw [cond_eq_ite] at hd
    split at hd
    · rename_i hc
      rw [and_true_iff] at hc
      have hju := eq_of_beq hc.1
      have hzl := eq_of_beq hc.2
      simp only [does_ret] at hd
      subst hd
      simp only [VSim] at hp
      subst hp
      obtain ⟨a, m, rfl, hsrc⟩ := srcR_sim hs hq hys
      obtain ⟨g, off, news, rfl, hc, hS2⟩ := hsrc (fun e => by rw [e] at hpos; simp at hpos)
      have hnl : news.length = ys.length * info.size := by rw [← hS2.length, flat_length, hsz, hju]
      have hr := run_append_nil (P := P) c.w t ty e info z hu hinf hz ⟨g, off, none⟩ ys.length m news hnl (fun j u hu => by rw [Addr.add_lit]; exact hc j u hu) hpos (by omega) (by rw [hby]; omega)
      exact grown (u := u) (zs := ys) (all := news) (old := 0) hzl hS2 (by unfold maxLen; omega) hpos hr
    · simp at hd
  · simp at hd

end
end Go.Proofs.Ytilfdpllleninaa
