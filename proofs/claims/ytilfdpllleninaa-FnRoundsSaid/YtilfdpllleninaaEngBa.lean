/- The engine, part Ba: what is known of the world ahead of every call; here nothing. (A seat whose functions read laid tables has a text of its own in this one's place.) -/
import Derived.Test.YtilfdpllleninaaEngB
namespace Go.Proofs.Ytilfdpllleninaa

/-- The blocks that are spoken of: nobody writes them. -/
def IvD : Nat → Prop := fun _ => False
/-- What is known. -/
def IvW : World → Prop := fun _ => True
theorem ivW_closed {w w' : World} (h : IvW w) (hh : ∀ n, IvD n → w'.heap[n]? = w.heap[n]?) : IvW w' := h

end Go.Proofs.Ytilfdpllleninaa
