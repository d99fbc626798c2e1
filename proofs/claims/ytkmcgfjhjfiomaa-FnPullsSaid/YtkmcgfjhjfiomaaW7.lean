/- The plain law of FnPulls, part 7: the list turned, the list moved. -/
import Derived.Test.YtkmcgfjhjfiomaaW6
import Derived.Test.YtkmcgfjhjfiomaaSize
namespace Go.Proofs.Ytkmcgfjhjfiomaa
set_option linter.unusedVariables false
set_option linter.unusedSimpArgs false

theorem lin_fl {c s x y : Nat} (hc : isNum .f32 c = true) (hs : isNum .f32 s = true) (hx : isNum .f32 x = true) (hy : isNum .f32 y = true) (bc : Bd (R .f32 c) 1) (bs : Bd (R .f32 s) 1) (bx : Bd (R .f32 x) 7) (by' : Bd (R .f32 y) 1) :
    (isNum .f32 (fsub .f32 (fmul .f32 c x) (fmul .f32 s y)) = true ∧ Nr (R .f32 (fsub .f32 (fmul .f32 c x) (fmul .f32 s y))) (R .f32 c * R .f32 x - R .f32 s * R .f32 y) (10 / 10000000)) ∧
    (isNum .f32 (fadd .f32 (fmul .f32 s x) (fmul .f32 c y)) = true ∧ Nr (R .f32 (fadd .f32 (fmul .f32 s x) (fmul .f32 c y))) (R .f32 s * R .f32 x + R .f32 c * R .f32 y) (10 / 10000000)) := by
  have hT := T_pos
  have hT1 := T_le
  have hG := Gr_ge
  have p1 := bc.mul bx
  have p2 := bs.mul by'
  have p3 := bs.mul bx
  have p4 := bc.mul by'
  have f1 := fmul_fl hc hx (p1.mono (by grind))
  have f2 := fmul_fl hs hy (p2.mono (by grind))
  have f3 := fmul_fl hs hx (p3.mono (by grind))
  have f4 := fmul_fl hc hy (p4.mono (by grind))
  have e1 := f1.err p1
  have e2 := f2.err p2
  have e3 := f3.err p3
  have e4 := f4.err p4
  have b1 := (e1.toBd p1).sub (e2.toBd p2)
  have b2 := (e3.toBd p3).add (e4.toBd p4)
  have g1 := fsub_fl f1.1 f2.1 (b1.mono (by grind))
  have g2 := fadd_fl f3.1 f4.1 (b2.mono (by grind))
  have k1 := g1.err b1
  have k2 := g2.err b2
  refine ⟨⟨g1.1, (k1.trans (e1.sub e2)).mono (by grind)⟩, ⟨g2.1, (k2.trans (e3.add e4)).mono (by grind)⟩⟩

theorem okB_parts {b : Body} (h : okB b = true) : isNum .f32 b.At.X = true ∧ isNum .f32 b.At.Y = true ∧ isNum .f32 b.At.Z = true ∧ isNum .f32 b.Speed.X = true ∧ isNum .f32 b.Speed.Y = true ∧ isNum .f32 b.Speed.Z = true ∧ isNum .f32 b.Mass = true ∧ fge .f32 b.Mass 0 = true := by
  unfold okB finV at h
  simp only [Bool.and_eq_true] at h
  obtain ⟨⟨⟨⟨a1, a2⟩, a3⟩, ⟨b1, b2⟩, b3⟩, c1, c2⟩ := h
  exact ⟨a1, a2, a3, b1, b2, b3, c1, c2⟩

theorem okB_of {b : Body} (a1 : isNum .f32 b.At.X = true) (a2 : isNum .f32 b.At.Y = true) (a3 : isNum .f32 b.At.Z = true) (b1 : isNum .f32 b.Speed.X = true) (b2 : isNum .f32 b.Speed.Y = true) (b3 : isNum .f32 b.Speed.Z = true) (c1 : isNum .f32 b.Mass = true) (c2 : fge .f32 b.Mass 0 = true) : okB b = true := by
  unfold okB finV
  simp only [a1, a2, a3, b1, b2, b3, c1, c2, Bool.and_true]

theorem Base.at {l : List Body} {f : Nat → Int × Int × Int × Int} (h : Base l f) {j : Nat} (hj : j < l.length) : Bd (R .f32 (l.getD j default).At.X) 7 ∧ Bd (R .f32 (l.getD j default).At.Y) 1 ∧ Bd (R .f32 (l.getD j default).At.Z) 1 := by
  have a := h.each j hj
  have b := h.lo j hj
  have c := a.y4
  have d := a.z4
  rw [a.x.R, a.y.R, a.z.R]
  exact ⟨(quarter_bd (M := 28) (by omega) (by omega)).mono (by decide +kernel), (quarter_bd (M := 4) (by omega) (by omega)).mono (by decide +kernel), (quarter_bd (M := 4) (by omega) (by omega)).mono (by decide +kernel)⟩

theorem turn_img {l : List Body} {f : Nat → Int × Int × Int × Int} (h : Base l f) {c s : Nat} (hc : isNum .f32 c = true) (hs : isNum .f32 s = true) (bc : Bd (R .f32 c) 1) (bs : Bd (R .f32 s) 1) :
    Img l (mapB (fun b => impl_TurnBodies_2 b c s) l) (R .f32 c) (R .f32 s) 0 0 ∧ okL (mapB (fun b => impl_TurnBodies_2 b c s) l) = true := by
  have e : ∀ b : Body, impl_TurnBodies_2 b c s = ⟨⟨fsub .f32 (fmul .f32 c b.At.X) (fmul .f32 s b.At.Y), fadd .f32 (fmul .f32 s b.At.X) (fmul .f32 c b.At.Y), b.At.Z⟩, ⟨fsub .f32 (fmul .f32 c b.Speed.X) (fmul .f32 s b.Speed.Y), fadd .f32 (fmul .f32 s b.Speed.X) (fmul .f32 c b.Speed.Y), b.Speed.Z⟩, b.Mass⟩ := fun b => rfl
  have pos : ∀ j, j < l.length → _ := fun j hj => lin_fl hc hs (h.each j hj).x.num (h.each j hj).y.num bc bs (h.at hj).1 (h.at hj).2.1
  refine ⟨⟨mapB_len _ _, ?_, ?_, ?_, ?_⟩, okL_of (by rw [mapB_len]; have := h.n4; omega) ?_⟩
  · intro j hj
    rw [mapB_get _ _ hj, e]
    obtain ⟨⟨a1, a2⟩, _⟩ := pos j hj
    exact ⟨a1, by rw [show R .f32 c * R .f32 (l.getD j default).At.X - R .f32 s * R .f32 (l.getD j default).At.Y + 0 = R .f32 c * R .f32 (l.getD j default).At.X - R .f32 s * R .f32 (l.getD j default).At.Y by grind]; exact a2⟩
  · intro j hj
    rw [mapB_get _ _ hj, e]
    obtain ⟨_, a1, a2⟩ := pos j hj
    exact ⟨a1, by rw [show R .f32 s * R .f32 (l.getD j default).At.X + R .f32 c * R .f32 (l.getD j default).At.Y + 0 = R .f32 s * R .f32 (l.getD j default).At.X + R .f32 c * R .f32 (l.getD j default).At.Y by grind]; exact a2⟩
  · intro i j hi hj
    rw [mapB_get _ _ hi, mapB_get _ _ hj, e, e]
    have a := h.each i hi
    have b := h.each j hj
    have a2 := a.z4
    have b2 := b.z4
    have q := b.z.sub a.z (by omega)
    refine ⟨q.num, ?_⟩
    show R .f32 (fsub .f32 (l.getD j default).At.Z (l.getD i default).At.Z) = _
    rw [q.R, a.z.R, b.z.R]
    push_cast
    grind
  · intro j hj
    rw [mapB_get _ _ hj, e]
  · intro j hj
    rw [mapB_len] at hj
    rw [mapB_get _ _ hj, e]
    obtain ⟨o1, o2, o3, o4, o5, o6, o7, o8⟩ := okB_parts (h.each j hj).ok
    obtain ⟨⟨a1, _⟩, a2, _⟩ := pos j hj
    obtain ⟨v1, v2, v3⟩ := (h.each j hj).v
    obtain ⟨⟨b1, _⟩, b2, _⟩ := lin_fl hc hs o4 o5 bc bs (v1.mono (by decide +kernel)) v2
    exact okB_of a1 a2 o3 b1 b2 o6 o7 o8

theorem SmallI.bd {x : Nat} (h : SmallI x) : isNum .f32 x = true ∧ Bd (R .f32 x) 4 := by
  obtain ⟨n, hn, hq⟩ := h
  exact ⟨hq.num, by rw [hq.R]; exact (quarter_bd (M := 16) (by omega) (by omega)).mono (by decide +kernel)⟩

theorem move_img {l : List Body} {f : Nat → Int × Int × Int × Int} (h : Base l f) {v w : Vec} (hx : SmallI v.X) (hy : SmallI v.Y) (hz : SmallI v.Z) (gx : SmallI w.X) (gy : SmallI w.Y) (gz : SmallI w.Z) :
    Img l (mapB (fun b => impl_MoveBodies_1 b v.X v.Y v.Z w.X w.Y w.Z) l) 1 0 (R .f32 v.X) (R .f32 v.Y) ∧ okL (mapB (fun b => impl_MoveBodies_1 b v.X v.Y v.Z w.X w.Y w.Z) l) = true := by
  have hG := Gr_ge
  have e : ∀ b : Body, impl_MoveBodies_1 b v.X v.Y v.Z w.X w.Y w.Z = ⟨⟨fadd .f32 b.At.X v.X, fadd .f32 b.At.Y v.Y, fadd .f32 b.At.Z v.Z⟩, ⟨fadd .f32 b.Speed.X w.X, fadd .f32 b.Speed.Y w.Y, fadd .f32 b.Speed.Z w.Z⟩, b.Mass⟩ := fun b => rfl
  obtain ⟨nx, bx, qx⟩ := hx
  obtain ⟨ny, by', qy⟩ := hy
  obtain ⟨nz, bz, qz⟩ := hz
  have px : ∀ j, j < l.length → Qt (fadd .f32 (l.getD j default).At.X v.X) ((f j).1 + nx) := fun j hj => (h.each j hj).x.add qx (by have := h.lo j hj; omega)
  have py : ∀ j, j < l.length → Qt (fadd .f32 (l.getD j default).At.Y v.Y) ((f j).2.1 + ny) := fun j hj => (h.each j hj).y.add qy (by have := (h.each j hj).y4; omega)
  have pz : ∀ j, j < l.length → Qt (fadd .f32 (l.getD j default).At.Z v.Z) ((f j).2.2.1 + nz) := fun j hj => (h.each j hj).z.add qz (by have := (h.each j hj).z4; omega)
  refine ⟨⟨mapB_len _ _, ?_, ?_, ?_, ?_⟩, okL_of (by rw [mapB_len]; have := h.n4; omega) ?_⟩
  · intro j hj
    rw [mapB_get _ _ hj, e]
    refine ⟨(px j hj).num, ?_⟩
    show Nr (R .f32 (fadd .f32 (l.getD j default).At.X v.X)) _ _
    rw [(px j hj).R, (h.each j hj).x.R, qx.R]
    push_cast
    unfold Nr
    constructor <;> grind
  · intro j hj
    rw [mapB_get _ _ hj, e]
    refine ⟨(py j hj).num, ?_⟩
    show Nr (R .f32 (fadd .f32 (l.getD j default).At.Y v.Y)) _ _
    rw [(py j hj).R, (h.each j hj).y.R, qy.R]
    push_cast
    unfold Nr
    constructor <;> grind
  · intro i j hi hj
    rw [mapB_get _ _ hi, mapB_get _ _ hj, e, e]
    have a2 := (h.each i hi).z4
    have b2 := (h.each j hj).z4
    have q := (pz j hj).sub (pz i hi) (by omega)
    refine ⟨q.num, ?_⟩
    show R .f32 (fsub .f32 (fadd .f32 (l.getD j default).At.Z v.Z) (fadd .f32 (l.getD i default).At.Z v.Z)) = _
    rw [q.R, (h.each i hi).z.R, (h.each j hj).z.R]
    push_cast
    grind
  · intro j hj
    rw [mapB_get _ _ hj, e]
  · intro j hj
    rw [mapB_len] at hj
    rw [mapB_get _ _ hj, e]
    obtain ⟨o1, o2, o3, o4, o5, o6, o7, o8⟩ := okB_parts (h.each j hj).ok
    obtain ⟨v1, v2, v3⟩ := (h.each j hj).v
    have k1 := fadd_fl o4 gx.bd.1 ((v1.add gx.bd.2).mono (by grind))
    have k2 := fadd_fl o5 gy.bd.1 ((v2.add gy.bd.2).mono (by grind))
    have k3 := fadd_fl o6 gz.bd.1 ((v3.add gz.bd.2).mono (by grind))
    exact okB_of (px j hj).num (py j hj).num (pz j hj).num k1.1 k2.1 k3.1 o7 o8

end Go.Proofs.Ytkmcgfjhjfiomaa
