/- The engine, part Ba, of a seat whose functions read and write numbers: the table of the powers of ten, and that of the places of bits, lie as laid; two variables hold errors. -/
import Derived.Test.YtacelaaifaffpaaGreatDoorEngB
import Derived.Test.YtacelaaifaffpaaGreatDoorProg
import Derived.Lib.LaidTab
import Derived.Lib.ItoaNum
import Derived.Lib.TrailingZeros
namespace Go.Proofs.YtacelaaifaffpaaGreatDoor

theorem tab_closed {P : Program} {nm : String} {k : IntKind} {tab : List Int} {w w' : World} (h : Go.Lib.TabIs P w nm k tab) (hh : ∀ n, P.globalNamed nm = some n → w'.heap[n]? = w.heap[n]?) : Go.Lib.TabIs P w' nm k tab := by
  unfold Go.Lib.TabIs World.var? at h ⊢
  cases hg : P.globalNamed nm with
  | none => rw [hg] at h; cases h
  | some g =>
    rw [hg] at h
    simp only [Option.bind_some] at h ⊢
    rw [hh g hg]
    exact h

/-- Two variables that hold errors. -/
def ErrVars (w : World) : Prop := (∃ ev, w.cell? ⟨2, 0, none⟩ = some ev ∧ (ev = .nilIface ∨ ∃ te pe, ev = .iface te pe)) ∧ ∃ ev, w.cell? ⟨3, 0, none⟩ = some ev ∧ (ev = .nilIface ∨ ∃ te pe, ev = .iface te pe)

/-- The blocks that are spoken of: nobody writes them. -/
def IvD : Nat → Prop := fun n => Tryz.prog.globalNamed "internal/strconv.uint64pow10" = some n ∨ Tryz.prog.globalNamed "math/bits.deBruijn64tab" = some n ∨ n = 2 ∨ n = 3
/-- What is known: the tables. -/
def IvW : World → Prop := fun w => Go.Lib.TabIs Tryz.prog w "internal/strconv.uint64pow10" .u64 Go.Lib.pow10Tab ∧ Go.Lib.TabIs Tryz.prog w "math/bits.deBruijn64tab" .u8 (Go.Lib.deBruijn64tab.map fun n : Nat => (n : Int)) ∧ ErrVars w
theorem ivW_closed {w w' : World} (h : IvW w) (hh : ∀ n, IvD n → w'.heap[n]? = w.heap[n]?) : IvW w' :=
  ⟨tab_closed h.1 fun n hn => hh n (.inl hn), tab_closed h.2.1 fun n hn => hh n (.inr (.inl hn)), by
    obtain ⟨⟨e1, h1, k1⟩, e2, h2, k2⟩ := h.2.2
    exact ⟨⟨e1, (World.cell?_of_block (a := ⟨2, 0, none⟩) (hh _ (.inr (.inr (.inl rfl))))).trans h1, k1⟩, e2, (World.cell?_of_block (a := ⟨3, 0, none⟩) (hh _ (.inr (.inr (.inr rfl))))).trans h2, k2⟩⟩
theorem IvW.pow {w : World} (h : IvW w) : Go.Lib.TabIs Tryz.prog w "internal/strconv.uint64pow10" .u64 Go.Lib.pow10Tab := h.1
theorem IvW.places {w : World} (h : IvW w) : Go.Lib.TabIs Tryz.prog w "math/bits.deBruijn64tab" .u8 (Go.Lib.deBruijn64tab.map fun n : Nat => (n : Int)) := h.2.1
theorem IvW.errs {w : World} (h : IvW w) : ErrVars w := h.2.2

end Go.Proofs.YtacelaaifaffpaaGreatDoor
