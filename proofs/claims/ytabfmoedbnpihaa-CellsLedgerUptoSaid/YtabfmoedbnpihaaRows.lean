/-
  No cell of these rows narrows 'for every input' (looked for: loops, veiled, ifaces, maps, wideKeys, modest, calm, conditions, laid).
  DERIVED. THE GIVEN ROWS OF THIS SEAT. 7 by the template 'for every input the law returns true; each argument reads behind the call as it read before'; 0 by the template 'total and deterministic' (their statements: YtabfmoedbnpihaaTotals.lean).
  GIVEN WITH THE SEED: the statements are not yours to turn. If you find one false, say at which input.
  Laid BY PROGRAM, IN A SANDBOX (cutbox-rows.mjs): the forced cells as the released guide's own fill.sh prints them over the translation cee21a821d4eaec7… (all of the seat's roots in one cut). By AI agents, Wed Nov 11 2026. No macro, syntax, notation, axiom, sorry.
-/
import Derived.Test.YtabfmoedbnpihaaChecked
import GoSem.Claim
import GoSem.ClaimJoined
import GoSem.ClaimMapViews
import Derived.JoinedTies
import Derived.KernelRfl
namespace Go.Proofs.Ytabfmoedbnpihaa
/- THE CELL 'sum', in the pinned program and in every row, IS THE sha256 OF THE DUMP (.gsa) THAT YtabfmoedbnpihaaProg.lean LOADS. Nothing in Lean hashes anything: it is a label: what it is worth is what the hold of that sum in a sandbox is worth. -/
noncomputable def Try.pinned : Pinned := { name := "ytabfmoedbnpihaa", sum := "cee21a821d4eaec7c45972ee75684bd047c3451cfec3a02c28087531b7ce8d19", checked := Try.checked }
namespace Rows
def none {H : Type} : Left H := { results := [], args := [] }

/-- 'fuguelaw03.CellsCopies': WHATEVER THE INPUT: true; the input reads as it did. -/
def cellsCopiesSpec : ChangeSpec := { name := "cellsCopies", fn := fun _ => fun
  | [d1, d2, d3] => { results := [.lit (.bool true)], args := [d1, d2, d3] }
  | _ => none }
def cellsCopiesRow : OpenClaim := { program := "ytabfmoedbnpihaa", sum := "cee21a821d4eaec7c45972ee75684bd047c3451cfec3a02c28087531b7ce8d19", func := "fugue/fuguelaw03.CellsCopies", spec := "cellsCopies", apart := false }
def CellsCopiesSaid : Prop := cellsCopiesRow.holds Try.pinned (OpenSpec.ofChange cellsCopiesSpec)

/-- ITS FALSE NEIGHBOUR: 'it returns false'. Refute it at one input. -/
def cellsCopiesWrong : ChangeSpec := { name := "cellsCopies", fn := fun _ => fun
  | [d1, d2, d3] => { results := [.lit (.bool false)], args := [d1, d2, d3] }
  | _ => none }
def CellsCopiesWrongFalsely : Prop := cellsCopiesRow.holds Try.pinned (OpenSpec.ofChange cellsCopiesWrong)

/-- 'fuguelaw03.CellsFrames': WHATEVER THE INPUT: true; the input reads as it did. -/
def cellsFramesSpec : ChangeSpec := { name := "cellsFrames", fn := fun _ => fun
  | [d1, d2] => { results := [.lit (.bool true)], args := [d1, d2] }
  | _ => none }
def cellsFramesRow : OpenClaim := { program := "ytabfmoedbnpihaa", sum := "cee21a821d4eaec7c45972ee75684bd047c3451cfec3a02c28087531b7ce8d19", func := "fugue/fuguelaw03.CellsFrames", spec := "cellsFrames", unfollowed := true, recurses := true, apart := false }
def CellsFramesSaid : Prop := cellsFramesRow.holds Try.pinned (OpenSpec.ofChange cellsFramesSpec)

/-- ITS FALSE NEIGHBOUR: 'it returns false'. Refute it at one input. -/
def cellsFramesWrong : ChangeSpec := { name := "cellsFrames", fn := fun _ => fun
  | [d1, d2] => { results := [.lit (.bool false)], args := [d1, d2] }
  | _ => none }
def CellsFramesWrongFalsely : Prop := cellsFramesRow.holds Try.pinned (OpenSpec.ofChange cellsFramesWrong)

/-- 'fuguelaw03.CellsLedger': WHATEVER THE INPUT: true; the input reads as it did. -/
def cellsLedgerSpec : ChangeSpec := { name := "cellsLedger", fn := fun _ => fun
  | [d] => { results := [.lit (.bool true)], args := [d] }
  | _ => none }
def cellsLedgerRow : OpenClaim := { program := "ytabfmoedbnpihaa", sum := "cee21a821d4eaec7c45972ee75684bd047c3451cfec3a02c28087531b7ce8d19", func := "fugue/fuguelaw03.CellsLedger", spec := "cellsLedger", unfollowed := true, recurses := true, apart := false }
def CellsLedgerSaid : Prop := cellsLedgerRow.holds Try.pinned (OpenSpec.ofChange cellsLedgerSpec)

/-- ITS FALSE NEIGHBOUR: 'it returns false'. Refute it at one input. -/
def cellsLedgerWrong : ChangeSpec := { name := "cellsLedger", fn := fun _ => fun
  | [d] => { results := [.lit (.bool false)], args := [d] }
  | _ => none }
def CellsLedgerWrongFalsely : Prop := cellsLedgerRow.holds Try.pinned (OpenSpec.ofChange cellsLedgerWrong)

/-- 'fuguelaw03.CellsCalls': WHATEVER THE INPUT: true; the input reads as it did. -/
def cellsCallsSpec : ChangeSpec := { name := "cellsCalls", fn := fun _ => fun
  | [d] => { results := [.lit (.bool true)], args := [d] }
  | _ => none }
def cellsCallsRow : OpenClaim := { program := "ytabfmoedbnpihaa", sum := "cee21a821d4eaec7c45972ee75684bd047c3451cfec3a02c28087531b7ce8d19", func := "fugue/fuguelaw03.CellsCalls", spec := "cellsCalls", unfollowed := true, recurses := true, apart := false }
def CellsCallsSaid : Prop := cellsCallsRow.holds Try.pinned (OpenSpec.ofChange cellsCallsSpec)

/-- ITS FALSE NEIGHBOUR: 'it returns false'. Refute it at one input. -/
def cellsCallsWrong : ChangeSpec := { name := "cellsCalls", fn := fun _ => fun
  | [d] => { results := [.lit (.bool false)], args := [d] }
  | _ => none }
def CellsCallsWrongFalsely : Prop := cellsCallsRow.holds Try.pinned (OpenSpec.ofChange cellsCallsWrong)

/-- 'fuguelaw03.CellsRefuses': WHATEVER THE INPUT: true; the input reads as it did. -/
def cellsRefusesSpec : ChangeSpec := { name := "cellsRefuses", fn := fun _ => fun
  | [d] => { results := [.lit (.bool true)], args := [d] }
  | _ => none }
def cellsRefusesRow : OpenClaim := { program := "ytabfmoedbnpihaa", sum := "cee21a821d4eaec7c45972ee75684bd047c3451cfec3a02c28087531b7ce8d19", func := "fugue/fuguelaw03.CellsRefuses", spec := "cellsRefuses", unfollowed := true, recurses := true, apart := false }
def CellsRefusesSaid : Prop := cellsRefusesRow.holds Try.pinned (OpenSpec.ofChange cellsRefusesSpec)

/-- ITS FALSE NEIGHBOUR: 'it returns false'. Refute it at one input. -/
def cellsRefusesWrong : ChangeSpec := { name := "cellsRefuses", fn := fun _ => fun
  | [d] => { results := [.lit (.bool false)], args := [d] }
  | _ => none }
def CellsRefusesWrongFalsely : Prop := cellsRefusesRow.holds Try.pinned (OpenSpec.ofChange cellsRefusesWrong)

/-- 'fuguelaw03.CellsPlaces': WHATEVER THE INPUT: true; the input reads as it did. -/
def cellsPlacesSpec : ChangeSpec := { name := "cellsPlaces", fn := fun _ => fun
  | [d] => { results := [.lit (.bool true)], args := [d] }
  | _ => none }
def cellsPlacesRow : OpenClaim := { program := "ytabfmoedbnpihaa", sum := "cee21a821d4eaec7c45972ee75684bd047c3451cfec3a02c28087531b7ce8d19", func := "fugue/fuguelaw03.CellsPlaces", spec := "cellsPlaces", unfollowed := true, recurses := true, apart := false }
def CellsPlacesSaid : Prop := cellsPlacesRow.holds Try.pinned (OpenSpec.ofChange cellsPlacesSpec)

/-- ITS FALSE NEIGHBOUR: 'it returns false'. Refute it at one input. -/
def cellsPlacesWrong : ChangeSpec := { name := "cellsPlaces", fn := fun _ => fun
  | [d] => { results := [.lit (.bool false)], args := [d] }
  | _ => none }
def CellsPlacesWrongFalsely : Prop := cellsPlacesRow.holds Try.pinned (OpenSpec.ofChange cellsPlacesWrong)

/-- 'fuguelaw03.CellsApart': WHATEVER THE INPUT: true; the input reads as it did. -/
def cellsApartSpec : ChangeSpec := { name := "cellsApart", fn := fun _ => fun
  | [d1, d2] => { results := [.lit (.bool true)], args := [d1, d2] }
  | _ => none }
def cellsApartRow : OpenClaim := { program := "ytabfmoedbnpihaa", sum := "cee21a821d4eaec7c45972ee75684bd047c3451cfec3a02c28087531b7ce8d19", func := "fugue/fuguelaw03.CellsApart", spec := "cellsApart", unfollowed := true, recurses := true, apart := false }
def CellsApartSaid : Prop := cellsApartRow.holds Try.pinned (OpenSpec.ofChange cellsApartSpec)

/-- ITS FALSE NEIGHBOUR: 'it returns false'. Refute it at one input. -/
def cellsApartWrong : ChangeSpec := { name := "cellsApart", fn := fun _ => fun
  | [d1, d2] => { results := [.lit (.bool false)], args := [d1, d2] }
  | _ => none }
def CellsApartWrongFalsely : Prop := cellsApartRow.holds Try.pinned (OpenSpec.ofChange cellsApartWrong)

/- THE SECOND FORM. 'bulk': how many values and letters a reading holds, each counted each time it is reached (what is shared counts as often as it is met; a slice's spare places count too). A statement '..UptoSaid' is the law's where the arguments, and the package variables that the reading takes, are together of bulk at most 1048576: NARROWER than '..Said'. Prove '..Said' where nothing that the law and all that it calls make is longer than what came in: it says more and counts as full. Else prove '..UptoSaid'. A law counts once. -/
mutual
def uptoBulk {H : Type} : DataW H → Nat
  | .lit (.string bytes) => bytes.length + 1
  | .lit _ => 1
  | .nil => 1
  | .ptr d => uptoBulk d + 1
  | .slice elems spare => uptoBulkAll elems + uptoBulkAll spare + 1
  | .agg parts => uptoBulkAll parts + 1
  | .iface _ d => uptoBulk d + 1
  | .map entries => uptoBulkEntries entries + 1
  | .held _ => 1
def uptoBulkAll {H : Type} : List (DataW H) → Nat
  | [] => 0
  | d :: r => uptoBulk d + uptoBulkAll r
def uptoBulkEntries {H : Type} : List (Lit × DataW H) → Nat
  | [] => 0
  | x :: r => uptoBulkEntry x + uptoBulkEntries r
def uptoBulkEntry {H : Type} : Lit × DataW H → Nat
  | (.string bytes, d) => bytes.length + uptoBulk d + 1
  | (_, d) => uptoBulk d + 1
 end
def uptoSmall : (H : Type) → List (DataW H) → Bool := fun _ ds => decide (uptoBulkAll ds ≤ 1048576)
def OpenSpec.upto (s : _root_.Go.ChangeSpec) : _root_.Go.OpenSpec := { _root_.Go.OpenSpec.ofChange s with cond := some uptoSmall }

/-- 'fuguelaw03.CellsCopies', WHERE WHAT IT READS IS OF BULK AT MOST 1048576: true; the input reads as it did. -/
def cellsCopiesUptoRow : OpenClaim := { program := "ytabfmoedbnpihaa", sum := "cee21a821d4eaec7c45972ee75684bd047c3451cfec3a02c28087531b7ce8d19", func := "fugue/fuguelaw03.CellsCopies", spec := "cellsCopies", apart := false, narrowed := true }
def CellsCopiesUptoSaid : Prop := cellsCopiesUptoRow.holds Try.pinned (OpenSpec.upto cellsCopiesSpec)

/-- 'fuguelaw03.CellsFrames', WHERE WHAT IT READS IS OF BULK AT MOST 1048576: true; the input reads as it did. -/
def cellsFramesUptoRow : OpenClaim := { program := "ytabfmoedbnpihaa", sum := "cee21a821d4eaec7c45972ee75684bd047c3451cfec3a02c28087531b7ce8d19", func := "fugue/fuguelaw03.CellsFrames", spec := "cellsFrames", unfollowed := true, recurses := true, apart := false, narrowed := true }
def CellsFramesUptoSaid : Prop := cellsFramesUptoRow.holds Try.pinned (OpenSpec.upto cellsFramesSpec)

/-- 'fuguelaw03.CellsLedger', WHERE WHAT IT READS IS OF BULK AT MOST 1048576: true; the input reads as it did. -/
def cellsLedgerUptoRow : OpenClaim := { program := "ytabfmoedbnpihaa", sum := "cee21a821d4eaec7c45972ee75684bd047c3451cfec3a02c28087531b7ce8d19", func := "fugue/fuguelaw03.CellsLedger", spec := "cellsLedger", unfollowed := true, recurses := true, apart := false, narrowed := true }
def CellsLedgerUptoSaid : Prop := cellsLedgerUptoRow.holds Try.pinned (OpenSpec.upto cellsLedgerSpec)

/-- 'fuguelaw03.CellsCalls', WHERE WHAT IT READS IS OF BULK AT MOST 1048576: true; the input reads as it did. -/
def cellsCallsUptoRow : OpenClaim := { program := "ytabfmoedbnpihaa", sum := "cee21a821d4eaec7c45972ee75684bd047c3451cfec3a02c28087531b7ce8d19", func := "fugue/fuguelaw03.CellsCalls", spec := "cellsCalls", unfollowed := true, recurses := true, apart := false, narrowed := true }
def CellsCallsUptoSaid : Prop := cellsCallsUptoRow.holds Try.pinned (OpenSpec.upto cellsCallsSpec)

/-- 'fuguelaw03.CellsRefuses', WHERE WHAT IT READS IS OF BULK AT MOST 1048576: true; the input reads as it did. -/
def cellsRefusesUptoRow : OpenClaim := { program := "ytabfmoedbnpihaa", sum := "cee21a821d4eaec7c45972ee75684bd047c3451cfec3a02c28087531b7ce8d19", func := "fugue/fuguelaw03.CellsRefuses", spec := "cellsRefuses", unfollowed := true, recurses := true, apart := false, narrowed := true }
def CellsRefusesUptoSaid : Prop := cellsRefusesUptoRow.holds Try.pinned (OpenSpec.upto cellsRefusesSpec)

/-- 'fuguelaw03.CellsPlaces', WHERE WHAT IT READS IS OF BULK AT MOST 1048576: true; the input reads as it did. -/
def cellsPlacesUptoRow : OpenClaim := { program := "ytabfmoedbnpihaa", sum := "cee21a821d4eaec7c45972ee75684bd047c3451cfec3a02c28087531b7ce8d19", func := "fugue/fuguelaw03.CellsPlaces", spec := "cellsPlaces", unfollowed := true, recurses := true, apart := false, narrowed := true }
def CellsPlacesUptoSaid : Prop := cellsPlacesUptoRow.holds Try.pinned (OpenSpec.upto cellsPlacesSpec)

/-- 'fuguelaw03.CellsApart', WHERE WHAT IT READS IS OF BULK AT MOST 1048576: true; the input reads as it did. -/
def cellsApartUptoRow : OpenClaim := { program := "ytabfmoedbnpihaa", sum := "cee21a821d4eaec7c45972ee75684bd047c3451cfec3a02c28087531b7ce8d19", func := "fugue/fuguelaw03.CellsApart", spec := "cellsApart", unfollowed := true, recurses := true, apart := false, narrowed := true }
def CellsApartUptoSaid : Prop := cellsApartUptoRow.holds Try.pinned (OpenSpec.upto cellsApartSpec)

end Rows
end Go.Proofs.Ytabfmoedbnpihaa
