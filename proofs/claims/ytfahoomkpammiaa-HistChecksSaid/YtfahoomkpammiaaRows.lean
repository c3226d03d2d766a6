/-
  No cell of these rows narrows 'for every input' (looked for: loops, veiled, ifaces, maps, wideKeys, modest, calm, conditions, laid).
  DERIVED. THE GIVEN ROWS OF THIS SEAT. 5 by the template 'for every input the law returns true; each argument reads behind the call as it read before'; 0 by the template 'total and deterministic' (their statements: YtfahoomkpammiaaTotals.lean).
  GIVEN WITH THE SEED: the statements are not yours to turn. If you find one false, say at which input.
  Laid BY PROGRAM, IN A SANDBOX (cutbox-rows.mjs): the forced cells as the released guide's own fill.sh prints them over the translation ad1cc8b2f99e3fa6… (all of the seat's roots in one cut). By AI agents, Wed Nov 11 2026. No macro, syntax, notation, axiom, sorry.
-/
import Derived.Test.YtfahoomkpammiaaChecked
import GoSem.Claim
import GoSem.ClaimJoined
import GoSem.ClaimMapViews
import Derived.JoinedTies
import Derived.KernelRfl
namespace Go.Proofs.Ytfahoomkpammiaa
/- THE CELL 'sum', in the pinned program and in every row, IS THE sha256 OF THE DUMP (.gsa) THAT YtfahoomkpammiaaProg.lean LOADS. Nothing in Lean hashes anything: it is a label: what it is worth is what the hold of that sum in a sandbox is worth. -/
noncomputable def Try.pinned : Pinned := { name := "ytfahoomkpammiaa", sum := "ad1cc8b2f99e3fa6940c850de73ee187fe29131c06be6b7b84e17c70530a0d86", checked := Try.checked }
namespace Rows
def none {H : Type} : Left H := { results := [], args := [] }

/-- 'fuguelaw23.HistLeast': WHATEVER THE INPUT: true; the input reads as it did. -/
def histLeastSpec : ChangeSpec := { name := "histLeast", fn := fun _ => fun
  | [d] => { results := [.lit (.bool true)], args := [d] }
  | _ => none }
def histLeastRow : OpenClaim := { program := "ytfahoomkpammiaa", sum := "ad1cc8b2f99e3fa6940c850de73ee187fe29131c06be6b7b84e17c70530a0d86", func := "fugue/fuguelaw23.HistLeast", spec := "histLeast", unfollowed := true, recurses := true, apart := false }
def HistLeastSaid : Prop := histLeastRow.holds Try.pinned (OpenSpec.ofChange histLeastSpec)

/-- ITS FALSE NEIGHBOUR: 'it returns false'. Refute it at one input. -/
def histLeastWrong : ChangeSpec := { name := "histLeast", fn := fun _ => fun
  | [d] => { results := [.lit (.bool false)], args := [d] }
  | _ => none }
def HistLeastWrongFalsely : Prop := histLeastRow.holds Try.pinned (OpenSpec.ofChange histLeastWrong)

/-- 'fuguelaw23.HistChecks': WHATEVER THE INPUT: true; the input reads as it did. -/
def histChecksSpec : ChangeSpec := { name := "histChecks", fn := fun _ => fun
  | [d] => { results := [.lit (.bool true)], args := [d] }
  | _ => none }
def histChecksRow : OpenClaim := { program := "ytfahoomkpammiaa", sum := "ad1cc8b2f99e3fa6940c850de73ee187fe29131c06be6b7b84e17c70530a0d86", func := "fugue/fuguelaw23.HistChecks", spec := "histChecks", unfollowed := true, recurses := true, apart := false }
def HistChecksSaid : Prop := histChecksRow.holds Try.pinned (OpenSpec.ofChange histChecksSpec)

/-- ITS FALSE NEIGHBOUR: 'it returns false'. Refute it at one input. -/
def histChecksWrong : ChangeSpec := { name := "histChecks", fn := fun _ => fun
  | [d] => { results := [.lit (.bool false)], args := [d] }
  | _ => none }
def HistChecksWrongFalsely : Prop := histChecksRow.holds Try.pinned (OpenSpec.ofChange histChecksWrong)

/-- 'fuguelaw23.HistOrders': WHATEVER THE INPUT: true; the input reads as it did. -/
def histOrdersSpec : ChangeSpec := { name := "histOrders", fn := fun _ => fun
  | [d] => { results := [.lit (.bool true)], args := [d] }
  | _ => none }
def histOrdersRow : OpenClaim := { program := "ytfahoomkpammiaa", sum := "ad1cc8b2f99e3fa6940c850de73ee187fe29131c06be6b7b84e17c70530a0d86", func := "fugue/fuguelaw23.HistOrders", spec := "histOrders", unfollowed := true, recurses := true, apart := false }
def HistOrdersSaid : Prop := histOrdersRow.holds Try.pinned (OpenSpec.ofChange histOrdersSpec)

/-- ITS FALSE NEIGHBOUR: 'it returns false'. Refute it at one input. -/
def histOrdersWrong : ChangeSpec := { name := "histOrders", fn := fun _ => fun
  | [d] => { results := [.lit (.bool false)], args := [d] }
  | _ => none }
def HistOrdersWrongFalsely : Prop := histOrdersRow.holds Try.pinned (OpenSpec.ofChange histOrdersWrong)

/-- 'fuguelaw23.HistMany': WHATEVER THE INPUT: true; the input reads as it did. -/
def histManySpec : ChangeSpec := { name := "histMany", fn := fun _ => fun
  | [d] => { results := [.lit (.bool true)], args := [d] }
  | _ => none }
def histManyRow : OpenClaim := { program := "ytfahoomkpammiaa", sum := "ad1cc8b2f99e3fa6940c850de73ee187fe29131c06be6b7b84e17c70530a0d86", func := "fugue/fuguelaw23.HistMany", spec := "histMany", unfollowed := true, recurses := true, apart := false }
def HistManySaid : Prop := histManyRow.holds Try.pinned (OpenSpec.ofChange histManySpec)

/-- ITS FALSE NEIGHBOUR: 'it returns false'. Refute it at one input. -/
def histManyWrong : ChangeSpec := { name := "histMany", fn := fun _ => fun
  | [d] => { results := [.lit (.bool false)], args := [d] }
  | _ => none }
def HistManyWrongFalsely : Prop := histManyRow.holds Try.pinned (OpenSpec.ofChange histManyWrong)

/-- 'fuguelaw23.HistPlays': WHATEVER THE INPUT: true; the input reads as it did. -/
def histPlaysSpec : ChangeSpec := { name := "histPlays", fn := fun _ => fun
  | [d1, d2] => { results := [.lit (.bool true)], args := [d1, d2] }
  | _ => none }
def histPlaysRow : OpenClaim := { program := "ytfahoomkpammiaa", sum := "ad1cc8b2f99e3fa6940c850de73ee187fe29131c06be6b7b84e17c70530a0d86", func := "fugue/fuguelaw23.HistPlays", spec := "histPlays", inPlace := ["sync/atomic.LoadUint32", "sync/atomic.StoreUint32"], unfollowed := true, recurses := true, apart := false }
def HistPlaysSaid : Prop := histPlaysRow.holds Try.pinned (OpenSpec.ofChange histPlaysSpec)

/-- ITS FALSE NEIGHBOUR: 'it returns false'. Refute it at one input. -/
def histPlaysWrong : ChangeSpec := { name := "histPlays", fn := fun _ => fun
  | [d1, d2] => { results := [.lit (.bool false)], args := [d1, d2] }
  | _ => none }
def HistPlaysWrongFalsely : Prop := histPlaysRow.holds Try.pinned (OpenSpec.ofChange histPlaysWrong)

/- THE SECOND FORM. 'bulk': how many values and letters a reading holds, each counted each time it is reached (what is shared counts as often as it is met; a slice's spare places count too). A statement '..UptoSaid' is the law's where the arguments, and the package variables that the reading takes, are together of bulk at most 1048576: NARROWER than '..Said'. Prove '..Said' where nothing that the law and all that it calls make is longer than what came in: it says more and counts as full. Else prove '..UptoSaid'. A law counts once. -/
mutual
def uptoBulk {H : Type} : DataW H → Nat
  | .lit (.string bytes) => bytes.length + 1
  | .lit _ => 1
  | .nil => 1
  | .ptr d => uptoBulk d + 1
  | .slice elems spare => uptoBulkAll elems + uptoBulkAll spare + 1
  | .agg parts => uptoBulkAll parts + 1
  | .iface _ d => uptoBulk d + 1
  | .map entries => uptoBulkEntries entries + 1
  | .held _ => 1
def uptoBulkAll {H : Type} : List (DataW H) → Nat
  | [] => 0
  | d :: r => uptoBulk d + uptoBulkAll r
def uptoBulkEntries {H : Type} : List (Lit × DataW H) → Nat
  | [] => 0
  | x :: r => uptoBulkEntry x + uptoBulkEntries r
def uptoBulkEntry {H : Type} : Lit × DataW H → Nat
  | (.string bytes, d) => bytes.length + uptoBulk d + 1
  | (_, d) => uptoBulk d + 1
 end
def uptoSmall : (H : Type) → List (DataW H) → Bool := fun _ ds => decide (uptoBulkAll ds ≤ 1048576)
def OpenSpec.upto (s : _root_.Go.ChangeSpec) : _root_.Go.OpenSpec := { _root_.Go.OpenSpec.ofChange s with cond := some uptoSmall }

/-- 'fuguelaw23.HistLeast', WHERE WHAT IT READS IS OF BULK AT MOST 1048576: true; the input reads as it did. -/
def histLeastUptoRow : OpenClaim := { program := "ytfahoomkpammiaa", sum := "ad1cc8b2f99e3fa6940c850de73ee187fe29131c06be6b7b84e17c70530a0d86", func := "fugue/fuguelaw23.HistLeast", spec := "histLeast", unfollowed := true, recurses := true, apart := false, narrowed := true }
def HistLeastUptoSaid : Prop := histLeastUptoRow.holds Try.pinned (OpenSpec.upto histLeastSpec)

/-- 'fuguelaw23.HistChecks', WHERE WHAT IT READS IS OF BULK AT MOST 1048576: true; the input reads as it did. -/
def histChecksUptoRow : OpenClaim := { program := "ytfahoomkpammiaa", sum := "ad1cc8b2f99e3fa6940c850de73ee187fe29131c06be6b7b84e17c70530a0d86", func := "fugue/fuguelaw23.HistChecks", spec := "histChecks", unfollowed := true, recurses := true, apart := false, narrowed := true }
def HistChecksUptoSaid : Prop := histChecksUptoRow.holds Try.pinned (OpenSpec.upto histChecksSpec)

/-- 'fuguelaw23.HistOrders', WHERE WHAT IT READS IS OF BULK AT MOST 1048576: true; the input reads as it did. -/
def histOrdersUptoRow : OpenClaim := { program := "ytfahoomkpammiaa", sum := "ad1cc8b2f99e3fa6940c850de73ee187fe29131c06be6b7b84e17c70530a0d86", func := "fugue/fuguelaw23.HistOrders", spec := "histOrders", unfollowed := true, recurses := true, apart := false, narrowed := true }
def HistOrdersUptoSaid : Prop := histOrdersUptoRow.holds Try.pinned (OpenSpec.upto histOrdersSpec)

/-- 'fuguelaw23.HistMany', WHERE WHAT IT READS IS OF BULK AT MOST 1048576: true; the input reads as it did. -/
def histManyUptoRow : OpenClaim := { program := "ytfahoomkpammiaa", sum := "ad1cc8b2f99e3fa6940c850de73ee187fe29131c06be6b7b84e17c70530a0d86", func := "fugue/fuguelaw23.HistMany", spec := "histMany", unfollowed := true, recurses := true, apart := false, narrowed := true }
def HistManyUptoSaid : Prop := histManyUptoRow.holds Try.pinned (OpenSpec.upto histManySpec)

/-- 'fuguelaw23.HistPlays', WHERE WHAT IT READS IS OF BULK AT MOST 1048576: true; the input reads as it did. -/
def histPlaysUptoRow : OpenClaim := { program := "ytfahoomkpammiaa", sum := "ad1cc8b2f99e3fa6940c850de73ee187fe29131c06be6b7b84e17c70530a0d86", func := "fugue/fuguelaw23.HistPlays", spec := "histPlays", inPlace := ["sync/atomic.LoadUint32", "sync/atomic.StoreUint32"], unfollowed := true, recurses := true, apart := false, narrowed := true }
def HistPlaysUptoSaid : Prop := histPlaysUptoRow.holds Try.pinned (OpenSpec.upto histPlaysSpec)

end Rows
end Go.Proofs.Ytfahoomkpammiaa
