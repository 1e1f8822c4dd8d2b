/-
  No cell of these rows narrows 'for every input' (looked for: loops, veiled, ifaces, maps, wideKeys, modest, calm, conditions, laid).
  DERIVED. THE GIVEN ROWS OF THIS SEAT. 5 by the template 'for every input the law returns true; each argument reads behind the call as it read before'; 0 by the template 'total and deterministic' (their statements: YtafnialikielkaaTotals.lean).
  GIVEN WITH THE SEED: the statements are not yours to turn. If you find one false, say at which input.
  Laid BY PROGRAM, IN A SANDBOX (cutbox-rows.mjs): the forced cells as the released guide's own fill.sh prints them over the translation abed46b5ae35c97d… (all of the seat's roots in one cut). By AI agents, Wed Nov 11 2026. No macro, syntax, notation, axiom, sorry.
-/
import Derived.Test.YtafnialikielkaaChecked
import GoSem.Claim
import GoSem.ClaimJoined
import GoSem.ClaimMapViews
import Derived.JoinedTies
import Derived.KernelRfl
namespace Go.Proofs.Ytafnialikielkaa
/- THE CELL 'sum', in the pinned program and in every row, IS THE sha256 OF THE DUMP (.gsa) THAT YtafnialikielkaaProg.lean LOADS. Nothing in Lean hashes anything: it is a label: what it is worth is what the hold of that sum in a sandbox is worth. -/
noncomputable def Try.pinned : Pinned := { name := "ytafnialikielkaa", sum := "abed46b5ae35c97d23525a655abd1a22e40aac4a9da84523f2b4f88361dbaba6", checked := Try.checked }
namespace Rows
def none {H : Type} : Left H := { results := [], args := [] }

/-- 'undercroftlaw16.XdrWrites': WHATEVER THE INPUT: true; the input reads as it did. -/
def xdrWritesSpec : ChangeSpec := { name := "xdrWrites", fn := fun _ => fun
  | [d] => { results := [.lit (.bool true)], args := [d] }
  | _ => none }
def xdrWritesRow : OpenClaim := { program := "ytafnialikielkaa", sum := "abed46b5ae35c97d23525a655abd1a22e40aac4a9da84523f2b4f88361dbaba6", func := "undercroft/undercroftlaw16.XdrWrites", spec := "xdrWrites", apart := false }
def XdrWritesSaid : Prop := xdrWritesRow.holds Try.pinned (OpenSpec.ofChange xdrWritesSpec)

/-- ITS FALSE NEIGHBOUR: 'it returns false'. Refute it at one input. -/
def xdrWritesWrong : ChangeSpec := { name := "xdrWrites", fn := fun _ => fun
  | [d] => { results := [.lit (.bool false)], args := [d] }
  | _ => none }
def XdrWritesWrongFalsely : Prop := xdrWritesRow.holds Try.pinned (OpenSpec.ofChange xdrWritesWrong)

/-- 'undercroftlaw16.XdrRows': WHATEVER THE INPUT: true; the input reads as it did. -/
def xdrRowsSpec : ChangeSpec := { name := "xdrRows", fn := fun _ => fun
  | [d1, d2, d3, d4] => { results := [.lit (.bool true)], args := [d1, d2, d3, d4] }
  | _ => none }
def xdrRowsRow : OpenClaim := { program := "ytafnialikielkaa", sum := "abed46b5ae35c97d23525a655abd1a22e40aac4a9da84523f2b4f88361dbaba6", func := "undercroft/undercroftlaw16.XdrRows", spec := "xdrRows", apart := false }
def XdrRowsSaid : Prop := xdrRowsRow.holds Try.pinned (OpenSpec.ofChange xdrRowsSpec)

/-- ITS FALSE NEIGHBOUR: 'it returns false'. Refute it at one input. -/
def xdrRowsWrong : ChangeSpec := { name := "xdrRows", fn := fun _ => fun
  | [d1, d2, d3, d4] => { results := [.lit (.bool false)], args := [d1, d2, d3, d4] }
  | _ => none }
def XdrRowsWrongFalsely : Prop := xdrRowsRow.holds Try.pinned (OpenSpec.ofChange xdrRowsWrong)

/-- 'undercroftlaw16.XdrPads': WHATEVER THE INPUT: true; the input reads as it did. -/
def xdrPadsSpec : ChangeSpec := { name := "xdrPads", fn := fun _ => fun
  | [d1, d2, d3, d4] => { results := [.lit (.bool true)], args := [d1, d2, d3, d4] }
  | _ => none }
def xdrPadsRow : OpenClaim := { program := "ytafnialikielkaa", sum := "abed46b5ae35c97d23525a655abd1a22e40aac4a9da84523f2b4f88361dbaba6", func := "undercroft/undercroftlaw16.XdrPads", spec := "xdrPads", apart := false }
def XdrPadsSaid : Prop := xdrPadsRow.holds Try.pinned (OpenSpec.ofChange xdrPadsSpec)

/-- ITS FALSE NEIGHBOUR: 'it returns false'. Refute it at one input. -/
def xdrPadsWrong : ChangeSpec := { name := "xdrPads", fn := fun _ => fun
  | [d1, d2, d3, d4] => { results := [.lit (.bool false)], args := [d1, d2, d3, d4] }
  | _ => none }
def XdrPadsWrongFalsely : Prop := xdrPadsRow.holds Try.pinned (OpenSpec.ofChange xdrPadsWrong)

/-- 'undercroftlaw16.XdrReads': WHATEVER THE INPUT: true; the input reads as it did. -/
def xdrReadsSpec : ChangeSpec := { name := "xdrReads", fn := fun _ => fun
  | [d1, d2] => { results := [.lit (.bool true)], args := [d1, d2] }
  | _ => none }
def xdrReadsRow : OpenClaim := { program := "ytafnialikielkaa", sum := "abed46b5ae35c97d23525a655abd1a22e40aac4a9da84523f2b4f88361dbaba6", func := "undercroft/undercroftlaw16.XdrReads", spec := "xdrReads", apart := false }
def XdrReadsSaid : Prop := xdrReadsRow.holds Try.pinned (OpenSpec.ofChange xdrReadsSpec)

/-- ITS FALSE NEIGHBOUR: 'it returns false'. Refute it at one input. -/
def xdrReadsWrong : ChangeSpec := { name := "xdrReads", fn := fun _ => fun
  | [d1, d2] => { results := [.lit (.bool false)], args := [d1, d2] }
  | _ => none }
def XdrReadsWrongFalsely : Prop := xdrReadsRow.holds Try.pinned (OpenSpec.ofChange xdrReadsWrong)

/-- 'undercroftlaw16.XdrBack': WHATEVER THE INPUT: true; the input reads as it did. -/
def xdrBackSpec : ChangeSpec := { name := "xdrBack", fn := fun _ => fun
  | [d1, d2] => { results := [.lit (.bool true)], args := [d1, d2] }
  | _ => none }
def xdrBackRow : OpenClaim := { program := "ytafnialikielkaa", sum := "abed46b5ae35c97d23525a655abd1a22e40aac4a9da84523f2b4f88361dbaba6", func := "undercroft/undercroftlaw16.XdrBack", spec := "xdrBack", apart := false }
def XdrBackSaid : Prop := xdrBackRow.holds Try.pinned (OpenSpec.ofChange xdrBackSpec)

/-- ITS FALSE NEIGHBOUR: 'it returns false'. Refute it at one input. -/
def xdrBackWrong : ChangeSpec := { name := "xdrBack", fn := fun _ => fun
  | [d1, d2] => { results := [.lit (.bool false)], args := [d1, d2] }
  | _ => none }
def XdrBackWrongFalsely : Prop := xdrBackRow.holds Try.pinned (OpenSpec.ofChange xdrBackWrong)

/- THE SECOND FORM. 'bulk': how many values and letters a reading holds, each counted each time it is reached (what is shared counts as often as it is met; a slice's spare places count too). A statement '..UptoSaid' is the law's where the arguments, and the package variables that the reading takes, are together of bulk at most 1048576: NARROWER than '..Said'. Prove '..Said' where nothing that the law and all that it calls make is longer than what came in: it says more and counts as full. Else prove '..UptoSaid'. A law counts once. -/
mutual
def uptoBulk {H : Type} : DataW H → Nat
  | .lit (.string bytes) => bytes.length + 1
  | .lit _ => 1
  | .nil => 1
  | .ptr d => uptoBulk d + 1
  | .slice elems spare => uptoBulkAll elems + uptoBulkAll spare + 1
  | .agg parts => uptoBulkAll parts + 1
  | .iface _ d => uptoBulk d + 1
  | .map entries => uptoBulkEntries entries + 1
  | .held _ => 1
def uptoBulkAll {H : Type} : List (DataW H) → Nat
  | [] => 0
  | d :: r => uptoBulk d + uptoBulkAll r
def uptoBulkEntries {H : Type} : List (Lit × DataW H) → Nat
  | [] => 0
  | x :: r => uptoBulkEntry x + uptoBulkEntries r
def uptoBulkEntry {H : Type} : Lit × DataW H → Nat
  | (.string bytes, d) => bytes.length + uptoBulk d + 1
  | (_, d) => uptoBulk d + 1
 end
def uptoSmall : (H : Type) → List (DataW H) → Bool := fun _ ds => decide (uptoBulkAll ds ≤ 1048576)
def OpenSpec.upto (s : _root_.Go.ChangeSpec) : _root_.Go.OpenSpec := { _root_.Go.OpenSpec.ofChange s with cond := some uptoSmall }

/-- 'undercroftlaw16.XdrWrites', WHERE WHAT IT READS IS OF BULK AT MOST 1048576: true; the input reads as it did. -/
def xdrWritesUptoRow : OpenClaim := { program := "ytafnialikielkaa", sum := "abed46b5ae35c97d23525a655abd1a22e40aac4a9da84523f2b4f88361dbaba6", func := "undercroft/undercroftlaw16.XdrWrites", spec := "xdrWrites", apart := false, narrowed := true }
def XdrWritesUptoSaid : Prop := xdrWritesUptoRow.holds Try.pinned (OpenSpec.upto xdrWritesSpec)

/-- 'undercroftlaw16.XdrRows', WHERE WHAT IT READS IS OF BULK AT MOST 1048576: true; the input reads as it did. -/
def xdrRowsUptoRow : OpenClaim := { program := "ytafnialikielkaa", sum := "abed46b5ae35c97d23525a655abd1a22e40aac4a9da84523f2b4f88361dbaba6", func := "undercroft/undercroftlaw16.XdrRows", spec := "xdrRows", apart := false, narrowed := true }
def XdrRowsUptoSaid : Prop := xdrRowsUptoRow.holds Try.pinned (OpenSpec.upto xdrRowsSpec)

/-- 'undercroftlaw16.XdrPads', WHERE WHAT IT READS IS OF BULK AT MOST 1048576: true; the input reads as it did. -/
def xdrPadsUptoRow : OpenClaim := { program := "ytafnialikielkaa", sum := "abed46b5ae35c97d23525a655abd1a22e40aac4a9da84523f2b4f88361dbaba6", func := "undercroft/undercroftlaw16.XdrPads", spec := "xdrPads", apart := false, narrowed := true }
def XdrPadsUptoSaid : Prop := xdrPadsUptoRow.holds Try.pinned (OpenSpec.upto xdrPadsSpec)

/-- 'undercroftlaw16.XdrReads', WHERE WHAT IT READS IS OF BULK AT MOST 1048576: true; the input reads as it did. -/
def xdrReadsUptoRow : OpenClaim := { program := "ytafnialikielkaa", sum := "abed46b5ae35c97d23525a655abd1a22e40aac4a9da84523f2b4f88361dbaba6", func := "undercroft/undercroftlaw16.XdrReads", spec := "xdrReads", apart := false, narrowed := true }
def XdrReadsUptoSaid : Prop := xdrReadsUptoRow.holds Try.pinned (OpenSpec.upto xdrReadsSpec)

/-- 'undercroftlaw16.XdrBack', WHERE WHAT IT READS IS OF BULK AT MOST 1048576: true; the input reads as it did. -/
def xdrBackUptoRow : OpenClaim := { program := "ytafnialikielkaa", sum := "abed46b5ae35c97d23525a655abd1a22e40aac4a9da84523f2b4f88361dbaba6", func := "undercroft/undercroftlaw16.XdrBack", spec := "xdrBack", apart := false, narrowed := true }
def XdrBackUptoSaid : Prop := xdrBackUptoRow.holds Try.pinned (OpenSpec.upto xdrBackSpec)

end Rows
end Go.Proofs.Ytafnialikielkaa
