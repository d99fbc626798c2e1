/- The engine, part Ba, of a seat whose functions write numbers: the table of the powers of ten lies as laid. -/
import Derived.Test.YtcipkfndnkmjlaaDoorEngB
import Derived.Test.YtcipkfndnkmjlaaDoorProg
import Derived.Lib.LaidTab
import Derived.Lib.ItoaNum
namespace Go.Proofs.YtcipkfndnkmjlaaDoor

/-- The block that is spoken of: nobody writes it. -/
def IvD : Nat → Prop := fun n => Tryd.prog.globalNamed "internal/strconv.uint64pow10" = some n
/-- What is known: the table. -/
def IvW : World → Prop := fun w => Go.Lib.TabIs Tryd.prog w "internal/strconv.uint64pow10" .u64 Go.Lib.pow10Tab
theorem ivW_closed {w w' : World} (h : IvW w) (hh : ∀ n, IvD n → w'.heap[n]? = w.heap[n]?) : IvW w' := by
  unfold IvW Go.Lib.TabIs World.var? at h ⊢
  cases hg : Tryd.prog.globalNamed "internal/strconv.uint64pow10" with
  | none => rw [hg] at h; cases h
  | some g =>
    rw [hg] at h
    simp only [Option.bind_some] at h ⊢
    rw [hh g hg]
    exact h

end Go.Proofs.YtcipkfndnkmjlaaDoor
