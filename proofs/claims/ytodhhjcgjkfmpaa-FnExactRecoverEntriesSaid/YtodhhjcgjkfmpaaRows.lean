/-
  No cell of these rows narrows 'for every input' (looked for: loops, veiled, ifaces, maps, wideKeys, modest, calm, conditions, laid).
  DERIVED. THE GIVEN ROWS OF THIS SEAT. 12 by the template 'for every input the law returns true; each argument reads behind the call as it read before'; 0 by the template 'total and deterministic' (their statements: YtodhhjcgjkfmpaaTotals.lean).
  GIVEN WITH THE SEED: the statements are not yours to turn. If you find one false, say at which input.
  Laid BY PROGRAM, IN A SANDBOX (cutbox-rows.mjs): the forced cells as the released guide's own fill.sh prints them over the translation ea5e31c544f5776d… (all of the seat's roots in one cut). By AI agents, Wed Nov 11 2026. No macro, syntax, notation, axiom, sorry.
-/
import Derived.Test.YtodhhjcgjkfmpaaChecked
import GoSem.Claim
import GoSem.ClaimJoined
import GoSem.ClaimMapViews
import Derived.JoinedTies
import Derived.KernelRfl
namespace Go.Proofs.Ytodhhjcgjkfmpaa
/- THE CELL 'sum', in the pinned program and in every row, IS THE sha256 OF THE DUMP (.gsa) THAT YtodhhjcgjkfmpaaProg.lean LOADS. Nothing in Lean hashes anything: it is a label: what it is worth is what the hold of that sum in a sandbox is worth. -/
noncomputable def Try.pinned : Pinned := { name := "ytodhhjcgjkfmpaa", sum := "ea5e31c544f5776de57a71ef0f9413e55ba0ec8f46af2cf25660b0445e25201c", checked := Try.checked }
namespace Rows
def none {H : Type} : Left H := { results := [], args := [] }

/-- 'laws.FnExactRecoverEntries': WHATEVER THE INPUT: true; the input reads as it did. -/
def fnExactRecoverEntriesSpec : ChangeSpec := { name := "fnExactRecoverEntries", fn := fun _ => fun
  | [d] => { results := [.lit (.bool true)], args := [d] }
  | _ => none }
def fnExactRecoverEntriesRow : OpenClaim := { program := "ytodhhjcgjkfmpaa", sum := "ea5e31c544f5776de57a71ef0f9413e55ba0ec8f46af2cf25660b0445e25201c", func := "loop.example/g01284/laws.FnExactRecoverEntries", spec := "fnExactRecoverEntries", inPlace := ["math.Float32frombits", "math.Float32bits", "math.Float64bits", "math.Float64frombits"], unfollowed := true, recurses := true, apart := false }
def FnExactRecoverEntriesSaid : Prop := fnExactRecoverEntriesRow.holds Try.pinned (OpenSpec.ofChange fnExactRecoverEntriesSpec)

/-- ITS FALSE NEIGHBOUR: 'it returns false'. Refute it at one input. -/
def fnExactRecoverEntriesWrong : ChangeSpec := { name := "fnExactRecoverEntries", fn := fun _ => fun
  | [d] => { results := [.lit (.bool false)], args := [d] }
  | _ => none }
def FnExactRecoverEntriesWrongFalsely : Prop := fnExactRecoverEntriesRow.holds Try.pinned (OpenSpec.ofChange fnExactRecoverEntriesWrong)

/-- 'laws.FnExactTiltBetween': WHATEVER THE INPUT: true; the input reads as it did. -/
def fnExactTiltBetweenSpec : ChangeSpec := { name := "fnExactTiltBetween", fn := fun _ => fun
  | [d1, d2] => { results := [.lit (.bool true)], args := [d1, d2] }
  | _ => none }
def fnExactTiltBetweenRow : OpenClaim := { program := "ytodhhjcgjkfmpaa", sum := "ea5e31c544f5776de57a71ef0f9413e55ba0ec8f46af2cf25660b0445e25201c", func := "loop.example/g01284/laws.FnExactTiltBetween", spec := "fnExactTiltBetween", inPlace := ["math.Float64frombits", "math.sqrt", "math.Float64bits", "math.archTrunc"], unfollowed := true, recurses := true, apart := false }
def FnExactTiltBetweenSaid : Prop := fnExactTiltBetweenRow.holds Try.pinned (OpenSpec.ofChange fnExactTiltBetweenSpec)

/-- ITS FALSE NEIGHBOUR: 'it returns false'. Refute it at one input. -/
def fnExactTiltBetweenWrong : ChangeSpec := { name := "fnExactTiltBetween", fn := fun _ => fun
  | [d1, d2] => { results := [.lit (.bool false)], args := [d1, d2] }
  | _ => none }
def FnExactTiltBetweenWrongFalsely : Prop := fnExactTiltBetweenRow.holds Try.pinned (OpenSpec.ofChange fnExactTiltBetweenWrong)

/-- 'laws.FnExactMarkOf': WHATEVER THE INPUT: true; the input reads as it did. -/
def fnExactMarkOfSpec : ChangeSpec := { name := "fnExactMarkOf", fn := fun _ => fun
  | [d1, d2, d3] => { results := [.lit (.bool true)], args := [d1, d2, d3] }
  | _ => none }
def fnExactMarkOfRow : OpenClaim := { program := "ytodhhjcgjkfmpaa", sum := "ea5e31c544f5776de57a71ef0f9413e55ba0ec8f46af2cf25660b0445e25201c", func := "loop.example/g01284/laws.FnExactMarkOf", spec := "fnExactMarkOf", inPlace := ["math.sqrt", "math.Float64frombits", "math.Float64bits", "math.archFloor", "math.archTrunc"], unfollowed := true, recurses := true, apart := false }
def FnExactMarkOfSaid : Prop := fnExactMarkOfRow.holds Try.pinned (OpenSpec.ofChange fnExactMarkOfSpec)

/-- ITS FALSE NEIGHBOUR: 'it returns false'. Refute it at one input. -/
def fnExactMarkOfWrong : ChangeSpec := { name := "fnExactMarkOf", fn := fun _ => fun
  | [d1, d2, d3] => { results := [.lit (.bool false)], args := [d1, d2, d3] }
  | _ => none }
def FnExactMarkOfWrongFalsely : Prop := fnExactMarkOfRow.holds Try.pinned (OpenSpec.ofChange fnExactMarkOfWrong)

/-- 'laws.FnExactPolygonBodies': WHATEVER THE INPUT: true; the input reads as it did. -/
def fnExactPolygonBodiesSpec : ChangeSpec := { name := "fnExactPolygonBodies", fn := fun _ => fun
  | [d1, d2, d3] => { results := [.lit (.bool true)], args := [d1, d2, d3] }
  | _ => none }
def fnExactPolygonBodiesRow : OpenClaim := { program := "ytodhhjcgjkfmpaa", sum := "ea5e31c544f5776de57a71ef0f9413e55ba0ec8f46af2cf25660b0445e25201c", func := "loop.example/g01284/laws.FnExactPolygonBodies", spec := "fnExactPolygonBodies", inPlace := ["math.Float64frombits", "math.sqrt", "math.Float64bits", "math.archTrunc"], unfollowed := true, recurses := true, apart := false }
def FnExactPolygonBodiesSaid : Prop := fnExactPolygonBodiesRow.holds Try.pinned (OpenSpec.ofChange fnExactPolygonBodiesSpec)

/-- ITS FALSE NEIGHBOUR: 'it returns false'. Refute it at one input. -/
def fnExactPolygonBodiesWrong : ChangeSpec := { name := "fnExactPolygonBodies", fn := fun _ => fun
  | [d1, d2, d3] => { results := [.lit (.bool false)], args := [d1, d2, d3] }
  | _ => none }
def FnExactPolygonBodiesWrongFalsely : Prop := fnExactPolygonBodiesRow.holds Try.pinned (OpenSpec.ofChange fnExactPolygonBodiesWrong)

/-- 'laws.FnExactCoverOf': WHATEVER THE INPUT: true; the input reads as it did. -/
def fnExactCoverOfSpec : ChangeSpec := { name := "fnExactCoverOf", fn := fun _ => fun
  | [d1, d2, d3, d4, d5, d6] => { results := [.lit (.bool true)], args := [d1, d2, d3, d4, d5, d6] }
  | _ => none }
def fnExactCoverOfRow : OpenClaim := { program := "ytodhhjcgjkfmpaa", sum := "ea5e31c544f5776de57a71ef0f9413e55ba0ec8f46af2cf25660b0445e25201c", func := "loop.example/g01284/laws.FnExactCoverOf", spec := "fnExactCoverOf", inPlace := ["math.Float64frombits", "math.sqrt", "math.Float64bits", "math.archTrunc"], unfollowed := true, recurses := true, apart := false }
def FnExactCoverOfSaid : Prop := fnExactCoverOfRow.holds Try.pinned (OpenSpec.ofChange fnExactCoverOfSpec)

/-- ITS FALSE NEIGHBOUR: 'it returns false'. Refute it at one input. -/
def fnExactCoverOfWrong : ChangeSpec := { name := "fnExactCoverOf", fn := fun _ => fun
  | [d1, d2, d3, d4, d5, d6] => { results := [.lit (.bool false)], args := [d1, d2, d3, d4, d5, d6] }
  | _ => none }
def FnExactCoverOfWrongFalsely : Prop := fnExactCoverOfRow.holds Try.pinned (OpenSpec.ofChange fnExactCoverOfWrong)

/-- 'laws.FnExactCoverShared': WHATEVER THE INPUT: true; the input reads as it did. -/
def fnExactCoverSharedSpec : ChangeSpec := { name := "fnExactCoverShared", fn := fun _ => fun
  | [d1, d2, d3, d4, d5, d6, d7] => { results := [.lit (.bool true)], args := [d1, d2, d3, d4, d5, d6, d7] }
  | _ => none }
def fnExactCoverSharedRow : OpenClaim := { program := "ytodhhjcgjkfmpaa", sum := "ea5e31c544f5776de57a71ef0f9413e55ba0ec8f46af2cf25660b0445e25201c", func := "loop.example/g01284/laws.FnExactCoverShared", spec := "fnExactCoverShared", inPlace := ["math.Float64frombits", "math.sqrt", "math.Float64bits", "math.archTrunc"], unfollowed := true, recurses := true, apart := false }
def FnExactCoverSharedSaid : Prop := fnExactCoverSharedRow.holds Try.pinned (OpenSpec.ofChange fnExactCoverSharedSpec)

/-- ITS FALSE NEIGHBOUR: 'it returns false'. Refute it at one input. -/
def fnExactCoverSharedWrong : ChangeSpec := { name := "fnExactCoverShared", fn := fun _ => fun
  | [d1, d2, d3, d4, d5, d6, d7] => { results := [.lit (.bool false)], args := [d1, d2, d3, d4, d5, d6, d7] }
  | _ => none }
def FnExactCoverSharedWrongFalsely : Prop := fnExactCoverSharedRow.holds Try.pinned (OpenSpec.ofChange fnExactCoverSharedWrong)

/-- 'laws.FnExactStepBodies': WHATEVER THE INPUT: true; the input reads as it did. -/
def fnExactStepBodiesSpec : ChangeSpec := { name := "fnExactStepBodies", fn := fun _ => fun
  | [d1, d2, d3] => { results := [.lit (.bool true)], args := [d1, d2, d3] }
  | _ => none }
def fnExactStepBodiesRow : OpenClaim := { program := "ytodhhjcgjkfmpaa", sum := "ea5e31c544f5776de57a71ef0f9413e55ba0ec8f46af2cf25660b0445e25201c", func := "loop.example/g01284/laws.FnExactStepBodies", spec := "fnExactStepBodies", inPlace := ["math.sqrt", "math.Float64bits", "math.Float64frombits"], unfollowed := true, recurses := true, apart := false }
def FnExactStepBodiesSaid : Prop := fnExactStepBodiesRow.holds Try.pinned (OpenSpec.ofChange fnExactStepBodiesSpec)

/-- ITS FALSE NEIGHBOUR: 'it returns false'. Refute it at one input. -/
def fnExactStepBodiesWrong : ChangeSpec := { name := "fnExactStepBodies", fn := fun _ => fun
  | [d1, d2, d3] => { results := [.lit (.bool false)], args := [d1, d2, d3] }
  | _ => none }
def FnExactStepBodiesWrongFalsely : Prop := fnExactStepBodiesRow.holds Try.pinned (OpenSpec.ofChange fnExactStepBodiesWrong)

/-- 'laws.FnExactFourthBodies': WHATEVER THE INPUT: true; the input reads as it did. -/
def fnExactFourthBodiesSpec : ChangeSpec := { name := "fnExactFourthBodies", fn := fun _ => fun
  | [d1, d2, d3] => { results := [.lit (.bool true)], args := [d1, d2, d3] }
  | _ => none }
def fnExactFourthBodiesRow : OpenClaim := { program := "ytodhhjcgjkfmpaa", sum := "ea5e31c544f5776de57a71ef0f9413e55ba0ec8f46af2cf25660b0445e25201c", func := "loop.example/g01284/laws.FnExactFourthBodies", spec := "fnExactFourthBodies", inPlace := ["math.sqrt", "math.Float64bits", "math.Float64frombits"], unfollowed := true, recurses := true, apart := false }
def FnExactFourthBodiesSaid : Prop := fnExactFourthBodiesRow.holds Try.pinned (OpenSpec.ofChange fnExactFourthBodiesSpec)

/-- ITS FALSE NEIGHBOUR: 'it returns false'. Refute it at one input. -/
def fnExactFourthBodiesWrong : ChangeSpec := { name := "fnExactFourthBodies", fn := fun _ => fun
  | [d1, d2, d3] => { results := [.lit (.bool false)], args := [d1, d2, d3] }
  | _ => none }
def FnExactFourthBodiesWrongFalsely : Prop := fnExactFourthBodiesRow.holds Try.pinned (OpenSpec.ofChange fnExactFourthBodiesWrong)

/-- 'laws.FnExactRunBodies': WHATEVER THE INPUT: true; the input reads as it did. -/
def fnExactRunBodiesSpec : ChangeSpec := { name := "fnExactRunBodies", fn := fun _ => fun
  | [d1, d2, d3, d4] => { results := [.lit (.bool true)], args := [d1, d2, d3, d4] }
  | _ => none }
def fnExactRunBodiesRow : OpenClaim := { program := "ytodhhjcgjkfmpaa", sum := "ea5e31c544f5776de57a71ef0f9413e55ba0ec8f46af2cf25660b0445e25201c", func := "loop.example/g01284/laws.FnExactRunBodies", spec := "fnExactRunBodies", inPlace := ["math.sqrt", "math.Float64bits", "math.Float64frombits"], unfollowed := true, recurses := true, apart := false }
def FnExactRunBodiesSaid : Prop := fnExactRunBodiesRow.holds Try.pinned (OpenSpec.ofChange fnExactRunBodiesSpec)

/-- ITS FALSE NEIGHBOUR: 'it returns false'. Refute it at one input. -/
def fnExactRunBodiesWrong : ChangeSpec := { name := "fnExactRunBodies", fn := fun _ => fun
  | [d1, d2, d3, d4] => { results := [.lit (.bool false)], args := [d1, d2, d3, d4] }
  | _ => none }
def FnExactRunBodiesWrongFalsely : Prop := fnExactRunBodiesRow.holds Try.pinned (OpenSpec.ofChange fnExactRunBodiesWrong)

/-- 'laws.FnExactNearestPass': WHATEVER THE INPUT: true; the input reads as it did. -/
def fnExactNearestPassSpec : ChangeSpec := { name := "fnExactNearestPass", fn := fun _ => fun
  | [d1, d2, d3, d4] => { results := [.lit (.bool true)], args := [d1, d2, d3, d4] }
  | _ => none }
def fnExactNearestPassRow : OpenClaim := { program := "ytodhhjcgjkfmpaa", sum := "ea5e31c544f5776de57a71ef0f9413e55ba0ec8f46af2cf25660b0445e25201c", func := "loop.example/g01284/laws.FnExactNearestPass", spec := "fnExactNearestPass", inPlace := ["math.sqrt", "math.Float64bits", "math.Float64frombits"], unfollowed := true, recurses := true, apart := false }
def FnExactNearestPassSaid : Prop := fnExactNearestPassRow.holds Try.pinned (OpenSpec.ofChange fnExactNearestPassSpec)

/-- ITS FALSE NEIGHBOUR: 'it returns false'. Refute it at one input. -/
def fnExactNearestPassWrong : ChangeSpec := { name := "fnExactNearestPass", fn := fun _ => fun
  | [d1, d2, d3, d4] => { results := [.lit (.bool false)], args := [d1, d2, d3, d4] }
  | _ => none }
def FnExactNearestPassWrongFalsely : Prop := fnExactNearestPassRow.holds Try.pinned (OpenSpec.ofChange fnExactNearestPassWrong)

/-- 'laws.FnExactHalvedBodies': WHATEVER THE INPUT: true; the input reads as it did. -/
def fnExactHalvedBodiesSpec : ChangeSpec := { name := "fnExactHalvedBodies", fn := fun _ => fun
  | [d1, d2, d3, d4] => { results := [.lit (.bool true)], args := [d1, d2, d3, d4] }
  | _ => none }
def fnExactHalvedBodiesRow : OpenClaim := { program := "ytodhhjcgjkfmpaa", sum := "ea5e31c544f5776de57a71ef0f9413e55ba0ec8f46af2cf25660b0445e25201c", func := "loop.example/g01284/laws.FnExactHalvedBodies", spec := "fnExactHalvedBodies", inPlace := ["math.sqrt", "math.Float64bits", "math.Float64frombits"], unfollowed := true, recurses := true, apart := false }
def FnExactHalvedBodiesSaid : Prop := fnExactHalvedBodiesRow.holds Try.pinned (OpenSpec.ofChange fnExactHalvedBodiesSpec)

/-- ITS FALSE NEIGHBOUR: 'it returns false'. Refute it at one input. -/
def fnExactHalvedBodiesWrong : ChangeSpec := { name := "fnExactHalvedBodies", fn := fun _ => fun
  | [d1, d2, d3, d4] => { results := [.lit (.bool false)], args := [d1, d2, d3, d4] }
  | _ => none }
def FnExactHalvedBodiesWrongFalsely : Prop := fnExactHalvedBodiesRow.holds Try.pinned (OpenSpec.ofChange fnExactHalvedBodiesWrong)

/-- 'laws.FnCatalogs': WHATEVER THE INPUT: true; the input reads as it did. -/
def fnCatalogsSpec : ChangeSpec := { name := "fnCatalogs", fn := fun _ => fun
  | [d1, d2] => { results := [.lit (.bool true)], args := [d1, d2] }
  | _ => none }
def fnCatalogsRow : OpenClaim := { program := "ytodhhjcgjkfmpaa", sum := "ea5e31c544f5776de57a71ef0f9413e55ba0ec8f46af2cf25660b0445e25201c", func := "loop.example/g01284/laws.FnCatalogs", spec := "fnCatalogs", inPlace := ["math.Float64bits", "math.Float64frombits", "math.Float32bits", "math.Float32frombits"], unfollowed := true, recurses := true, apart := false }
def FnCatalogsSaid : Prop := fnCatalogsRow.holds Try.pinned (OpenSpec.ofChange fnCatalogsSpec)

/-- ITS FALSE NEIGHBOUR: 'it returns false'. Refute it at one input. -/
def fnCatalogsWrong : ChangeSpec := { name := "fnCatalogs", fn := fun _ => fun
  | [d1, d2] => { results := [.lit (.bool false)], args := [d1, d2] }
  | _ => none }
def FnCatalogsWrongFalsely : Prop := fnCatalogsRow.holds Try.pinned (OpenSpec.ofChange fnCatalogsWrong)

/- THE SECOND FORM. 'bulk': how many values and letters a reading holds, each counted each time it is reached (what is shared counts as often as it is met; a slice's spare places count too). A statement '..UptoSaid' is the law's where the arguments, and the package variables that the reading takes, are together of bulk at most 1048576: NARROWER than '..Said'. Prove '..Said' where nothing that the law and all that it calls make is longer than what came in: it says more and counts as full. Else prove '..UptoSaid'. A law counts once. -/
mutual
def uptoBulk {H : Type} : DataW H → Nat
  | .lit (.string bytes) => bytes.length + 1
  | .lit _ => 1
  | .nil => 1
  | .ptr d => uptoBulk d + 1
  | .slice elems spare => uptoBulkAll elems + uptoBulkAll spare + 1
  | .agg parts => uptoBulkAll parts + 1
  | .iface _ d => uptoBulk d + 1
  | .map entries => uptoBulkEntries entries + 1
  | .held _ => 1
def uptoBulkAll {H : Type} : List (DataW H) → Nat
  | [] => 0
  | d :: r => uptoBulk d + uptoBulkAll r
def uptoBulkEntries {H : Type} : List (Lit × DataW H) → Nat
  | [] => 0
  | x :: r => uptoBulkEntry x + uptoBulkEntries r
def uptoBulkEntry {H : Type} : Lit × DataW H → Nat
  | (.string bytes, d) => bytes.length + uptoBulk d + 1
  | (_, d) => uptoBulk d + 1
 end
def uptoSmall : (H : Type) → List (DataW H) → Bool := fun _ ds => decide (uptoBulkAll ds ≤ 1048576)
def OpenSpec.upto (s : _root_.Go.ChangeSpec) : _root_.Go.OpenSpec := { _root_.Go.OpenSpec.ofChange s with cond := some uptoSmall }

/-- 'laws.FnExactRecoverEntries', WHERE WHAT IT READS IS OF BULK AT MOST 1048576: true; the input reads as it did. -/
def fnExactRecoverEntriesUptoRow : OpenClaim := { program := "ytodhhjcgjkfmpaa", sum := "ea5e31c544f5776de57a71ef0f9413e55ba0ec8f46af2cf25660b0445e25201c", func := "loop.example/g01284/laws.FnExactRecoverEntries", spec := "fnExactRecoverEntries", inPlace := ["math.Float32frombits", "math.Float32bits", "math.Float64bits", "math.Float64frombits"], unfollowed := true, recurses := true, apart := false, narrowed := true }
def FnExactRecoverEntriesUptoSaid : Prop := fnExactRecoverEntriesUptoRow.holds Try.pinned (OpenSpec.upto fnExactRecoverEntriesSpec)

/-- 'laws.FnExactTiltBetween', WHERE WHAT IT READS IS OF BULK AT MOST 1048576: true; the input reads as it did. -/
def fnExactTiltBetweenUptoRow : OpenClaim := { program := "ytodhhjcgjkfmpaa", sum := "ea5e31c544f5776de57a71ef0f9413e55ba0ec8f46af2cf25660b0445e25201c", func := "loop.example/g01284/laws.FnExactTiltBetween", spec := "fnExactTiltBetween", inPlace := ["math.Float64frombits", "math.sqrt", "math.Float64bits", "math.archTrunc"], unfollowed := true, recurses := true, apart := false, narrowed := true }
def FnExactTiltBetweenUptoSaid : Prop := fnExactTiltBetweenUptoRow.holds Try.pinned (OpenSpec.upto fnExactTiltBetweenSpec)

/-- 'laws.FnExactMarkOf', WHERE WHAT IT READS IS OF BULK AT MOST 1048576: true; the input reads as it did. -/
def fnExactMarkOfUptoRow : OpenClaim := { program := "ytodhhjcgjkfmpaa", sum := "ea5e31c544f5776de57a71ef0f9413e55ba0ec8f46af2cf25660b0445e25201c", func := "loop.example/g01284/laws.FnExactMarkOf", spec := "fnExactMarkOf", inPlace := ["math.sqrt", "math.Float64frombits", "math.Float64bits", "math.archFloor", "math.archTrunc"], unfollowed := true, recurses := true, apart := false, narrowed := true }
def FnExactMarkOfUptoSaid : Prop := fnExactMarkOfUptoRow.holds Try.pinned (OpenSpec.upto fnExactMarkOfSpec)

/-- 'laws.FnExactPolygonBodies', WHERE WHAT IT READS IS OF BULK AT MOST 1048576: true; the input reads as it did. -/
def fnExactPolygonBodiesUptoRow : OpenClaim := { program := "ytodhhjcgjkfmpaa", sum := "ea5e31c544f5776de57a71ef0f9413e55ba0ec8f46af2cf25660b0445e25201c", func := "loop.example/g01284/laws.FnExactPolygonBodies", spec := "fnExactPolygonBodies", inPlace := ["math.Float64frombits", "math.sqrt", "math.Float64bits", "math.archTrunc"], unfollowed := true, recurses := true, apart := false, narrowed := true }
def FnExactPolygonBodiesUptoSaid : Prop := fnExactPolygonBodiesUptoRow.holds Try.pinned (OpenSpec.upto fnExactPolygonBodiesSpec)

/-- 'laws.FnExactCoverOf', WHERE WHAT IT READS IS OF BULK AT MOST 1048576: true; the input reads as it did. -/
def fnExactCoverOfUptoRow : OpenClaim := { program := "ytodhhjcgjkfmpaa", sum := "ea5e31c544f5776de57a71ef0f9413e55ba0ec8f46af2cf25660b0445e25201c", func := "loop.example/g01284/laws.FnExactCoverOf", spec := "fnExactCoverOf", inPlace := ["math.Float64frombits", "math.sqrt", "math.Float64bits", "math.archTrunc"], unfollowed := true, recurses := true, apart := false, narrowed := true }
def FnExactCoverOfUptoSaid : Prop := fnExactCoverOfUptoRow.holds Try.pinned (OpenSpec.upto fnExactCoverOfSpec)

/-- 'laws.FnExactCoverShared', WHERE WHAT IT READS IS OF BULK AT MOST 1048576: true; the input reads as it did. -/
def fnExactCoverSharedUptoRow : OpenClaim := { program := "ytodhhjcgjkfmpaa", sum := "ea5e31c544f5776de57a71ef0f9413e55ba0ec8f46af2cf25660b0445e25201c", func := "loop.example/g01284/laws.FnExactCoverShared", spec := "fnExactCoverShared", inPlace := ["math.Float64frombits", "math.sqrt", "math.Float64bits", "math.archTrunc"], unfollowed := true, recurses := true, apart := false, narrowed := true }
def FnExactCoverSharedUptoSaid : Prop := fnExactCoverSharedUptoRow.holds Try.pinned (OpenSpec.upto fnExactCoverSharedSpec)

/-- 'laws.FnExactStepBodies', WHERE WHAT IT READS IS OF BULK AT MOST 1048576: true; the input reads as it did. -/
def fnExactStepBodiesUptoRow : OpenClaim := { program := "ytodhhjcgjkfmpaa", sum := "ea5e31c544f5776de57a71ef0f9413e55ba0ec8f46af2cf25660b0445e25201c", func := "loop.example/g01284/laws.FnExactStepBodies", spec := "fnExactStepBodies", inPlace := ["math.sqrt", "math.Float64bits", "math.Float64frombits"], unfollowed := true, recurses := true, apart := false, narrowed := true }
def FnExactStepBodiesUptoSaid : Prop := fnExactStepBodiesUptoRow.holds Try.pinned (OpenSpec.upto fnExactStepBodiesSpec)

/-- 'laws.FnExactFourthBodies', WHERE WHAT IT READS IS OF BULK AT MOST 1048576: true; the input reads as it did. -/
def fnExactFourthBodiesUptoRow : OpenClaim := { program := "ytodhhjcgjkfmpaa", sum := "ea5e31c544f5776de57a71ef0f9413e55ba0ec8f46af2cf25660b0445e25201c", func := "loop.example/g01284/laws.FnExactFourthBodies", spec := "fnExactFourthBodies", inPlace := ["math.sqrt", "math.Float64bits", "math.Float64frombits"], unfollowed := true, recurses := true, apart := false, narrowed := true }
def FnExactFourthBodiesUptoSaid : Prop := fnExactFourthBodiesUptoRow.holds Try.pinned (OpenSpec.upto fnExactFourthBodiesSpec)

/-- 'laws.FnExactRunBodies', WHERE WHAT IT READS IS OF BULK AT MOST 1048576: true; the input reads as it did. -/
def fnExactRunBodiesUptoRow : OpenClaim := { program := "ytodhhjcgjkfmpaa", sum := "ea5e31c544f5776de57a71ef0f9413e55ba0ec8f46af2cf25660b0445e25201c", func := "loop.example/g01284/laws.FnExactRunBodies", spec := "fnExactRunBodies", inPlace := ["math.sqrt", "math.Float64bits", "math.Float64frombits"], unfollowed := true, recurses := true, apart := false, narrowed := true }
def FnExactRunBodiesUptoSaid : Prop := fnExactRunBodiesUptoRow.holds Try.pinned (OpenSpec.upto fnExactRunBodiesSpec)

/-- 'laws.FnExactNearestPass', WHERE WHAT IT READS IS OF BULK AT MOST 1048576: true; the input reads as it did. -/
def fnExactNearestPassUptoRow : OpenClaim := { program := "ytodhhjcgjkfmpaa", sum := "ea5e31c544f5776de57a71ef0f9413e55ba0ec8f46af2cf25660b0445e25201c", func := "loop.example/g01284/laws.FnExactNearestPass", spec := "fnExactNearestPass", inPlace := ["math.sqrt", "math.Float64bits", "math.Float64frombits"], unfollowed := true, recurses := true, apart := false, narrowed := true }
def FnExactNearestPassUptoSaid : Prop := fnExactNearestPassUptoRow.holds Try.pinned (OpenSpec.upto fnExactNearestPassSpec)

/-- 'laws.FnExactHalvedBodies', WHERE WHAT IT READS IS OF BULK AT MOST 1048576: true; the input reads as it did. -/
def fnExactHalvedBodiesUptoRow : OpenClaim := { program := "ytodhhjcgjkfmpaa", sum := "ea5e31c544f5776de57a71ef0f9413e55ba0ec8f46af2cf25660b0445e25201c", func := "loop.example/g01284/laws.FnExactHalvedBodies", spec := "fnExactHalvedBodies", inPlace := ["math.sqrt", "math.Float64bits", "math.Float64frombits"], unfollowed := true, recurses := true, apart := false, narrowed := true }
def FnExactHalvedBodiesUptoSaid : Prop := fnExactHalvedBodiesUptoRow.holds Try.pinned (OpenSpec.upto fnExactHalvedBodiesSpec)

/-- 'laws.FnCatalogs', WHERE WHAT IT READS IS OF BULK AT MOST 1048576: true; the input reads as it did. -/
def fnCatalogsUptoRow : OpenClaim := { program := "ytodhhjcgjkfmpaa", sum := "ea5e31c544f5776de57a71ef0f9413e55ba0ec8f46af2cf25660b0445e25201c", func := "loop.example/g01284/laws.FnCatalogs", spec := "fnCatalogs", inPlace := ["math.Float64bits", "math.Float64frombits", "math.Float32bits", "math.Float32frombits"], unfollowed := true, recurses := true, apart := false, narrowed := true }
def FnCatalogsUptoSaid : Prop := fnCatalogsUptoRow.holds Try.pinned (OpenSpec.upto fnCatalogsSpec)

end Rows
end Go.Proofs.Ytodhhjcgjkfmpaa
