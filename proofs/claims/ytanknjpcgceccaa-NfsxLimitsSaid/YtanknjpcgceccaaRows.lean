/-
  No cell of these rows narrows 'for every input' (looked for: loops, veiled, ifaces, maps, wideKeys, modest, calm, conditions, laid).
  DERIVED. THE GIVEN ROWS OF THIS SEAT. 5 by the template 'for every input the law returns true; each argument reads behind the call as it read before'; 0 by the template 'total and deterministic' (their statements: YtanknjpcgceccaaTotals.lean).
  GIVEN WITH THE SEED: the statements are not yours to turn. If you find one false, say at which input.
  Laid BY PROGRAM, IN A SANDBOX (cutbox-rows.mjs): the forced cells as the released guide's own fill.sh prints them over the translation 298b6c89677963de… (all of the seat's roots in one cut). By AI agents, Wed Nov 11 2026. No macro, syntax, notation, axiom, sorry.
-/
import Derived.Test.YtanknjpcgceccaaChecked
import GoSem.Claim
import GoSem.ClaimJoined
import GoSem.ClaimMapViews
import Derived.JoinedTies
import Derived.KernelRfl
namespace Go.Proofs.Ytanknjpcgceccaa
/- THE CELL 'sum', in the pinned program and in every row, IS THE sha256 OF THE DUMP (.gsa) THAT YtanknjpcgceccaaProg.lean LOADS. Nothing in Lean hashes anything: it is a label: what it is worth is what the hold of that sum in a sandbox is worth. -/
noncomputable def Try.pinned : Pinned := { name := "ytanknjpcgceccaa", sum := "298b6c89677963de0bec4e0badf7141fe17787f0ca7deb0e1261a43271f35d2b", checked := Try.checked }
namespace Rows
def none {H : Type} : Left H := { results := [], args := [] }

/-- 'undercroftlaw19.NfsxArgs': WHATEVER THE INPUT: true; the input reads as it did. -/
def nfsxArgsSpec : ChangeSpec := { name := "nfsxArgs", fn := fun _ => fun
  | [d1, d2, d3] => { results := [.lit (.bool true)], args := [d1, d2, d3] }
  | _ => none }
def nfsxArgsRow : OpenClaim := { program := "ytanknjpcgceccaa", sum := "298b6c89677963de0bec4e0badf7141fe17787f0ca7deb0e1261a43271f35d2b", func := "undercroft/undercroftlaw19.NfsxArgs", spec := "nfsxArgs", apart := false }
def NfsxArgsSaid : Prop := nfsxArgsRow.holds Try.pinned (OpenSpec.ofChange nfsxArgsSpec)

/-- ITS FALSE NEIGHBOUR: 'it returns false'. Refute it at one input. -/
def nfsxArgsWrong : ChangeSpec := { name := "nfsxArgs", fn := fun _ => fun
  | [d1, d2, d3] => { results := [.lit (.bool false)], args := [d1, d2, d3] }
  | _ => none }
def NfsxArgsWrongFalsely : Prop := nfsxArgsRow.holds Try.pinned (OpenSpec.ofChange nfsxArgsWrong)

/-- 'undercroftlaw19.NfsxSame': WHATEVER THE INPUT: true; the input reads as it did. -/
def nfsxSameSpec : ChangeSpec := { name := "nfsxSame", fn := fun _ => fun
  | [d1, d2, d3, d4] => { results := [.lit (.bool true)], args := [d1, d2, d3, d4] }
  | _ => none }
def nfsxSameRow : OpenClaim := { program := "ytanknjpcgceccaa", sum := "298b6c89677963de0bec4e0badf7141fe17787f0ca7deb0e1261a43271f35d2b", func := "undercroft/undercroftlaw19.NfsxSame", spec := "nfsxSame", apart := false }
def NfsxSameSaid : Prop := nfsxSameRow.holds Try.pinned (OpenSpec.ofChange nfsxSameSpec)

/-- ITS FALSE NEIGHBOUR: 'it returns false'. Refute it at one input. -/
def nfsxSameWrong : ChangeSpec := { name := "nfsxSame", fn := fun _ => fun
  | [d1, d2, d3, d4] => { results := [.lit (.bool false)], args := [d1, d2, d3, d4] }
  | _ => none }
def NfsxSameWrongFalsely : Prop := nfsxSameRow.holds Try.pinned (OpenSpec.ofChange nfsxSameWrong)

/-- 'undercroftlaw19.NfsxLimits': WHATEVER THE INPUT: true; the input reads as it did. -/
def nfsxLimitsSpec : ChangeSpec := { name := "nfsxLimits", fn := fun _ => fun
  | [d1, d2] => { results := [.lit (.bool true)], args := [d1, d2] }
  | _ => none }
def nfsxLimitsRow : OpenClaim := { program := "ytanknjpcgceccaa", sum := "298b6c89677963de0bec4e0badf7141fe17787f0ca7deb0e1261a43271f35d2b", func := "undercroft/undercroftlaw19.NfsxLimits", spec := "nfsxLimits", apart := false }
def NfsxLimitsSaid : Prop := nfsxLimitsRow.holds Try.pinned (OpenSpec.ofChange nfsxLimitsSpec)

/-- ITS FALSE NEIGHBOUR: 'it returns false'. Refute it at one input. -/
def nfsxLimitsWrong : ChangeSpec := { name := "nfsxLimits", fn := fun _ => fun
  | [d1, d2] => { results := [.lit (.bool false)], args := [d1, d2] }
  | _ => none }
def NfsxLimitsWrongFalsely : Prop := nfsxLimitsRow.holds Try.pinned (OpenSpec.ofChange nfsxLimitsWrong)

/-- 'undercroftlaw19.NfsxBack': WHATEVER THE INPUT: true; the input reads as it did. -/
def nfsxBackSpec : ChangeSpec := { name := "nfsxBack", fn := fun _ => fun
  | [d1, d2, d3, d4] => { results := [.lit (.bool true)], args := [d1, d2, d3, d4] }
  | _ => none }
def nfsxBackRow : OpenClaim := { program := "ytanknjpcgceccaa", sum := "298b6c89677963de0bec4e0badf7141fe17787f0ca7deb0e1261a43271f35d2b", func := "undercroft/undercroftlaw19.NfsxBack", spec := "nfsxBack", apart := false }
def NfsxBackSaid : Prop := nfsxBackRow.holds Try.pinned (OpenSpec.ofChange nfsxBackSpec)

/-- ITS FALSE NEIGHBOUR: 'it returns false'. Refute it at one input. -/
def nfsxBackWrong : ChangeSpec := { name := "nfsxBack", fn := fun _ => fun
  | [d1, d2, d3, d4] => { results := [.lit (.bool false)], args := [d1, d2, d3, d4] }
  | _ => none }
def NfsxBackWrongFalsely : Prop := nfsxBackRow.holds Try.pinned (OpenSpec.ofChange nfsxBackWrong)

/-- 'undercroftlaw19.NfsxProcs': WHATEVER THE INPUT: true; the input reads as it did. -/
def nfsxProcsSpec : ChangeSpec := { name := "nfsxProcs", fn := fun _ => fun
  | [d1, d2] => { results := [.lit (.bool true)], args := [d1, d2] }
  | _ => none }
def nfsxProcsRow : OpenClaim := { program := "ytanknjpcgceccaa", sum := "298b6c89677963de0bec4e0badf7141fe17787f0ca7deb0e1261a43271f35d2b", func := "undercroft/undercroftlaw19.NfsxProcs", spec := "nfsxProcs", apart := false }
def NfsxProcsSaid : Prop := nfsxProcsRow.holds Try.pinned (OpenSpec.ofChange nfsxProcsSpec)

/-- ITS FALSE NEIGHBOUR: 'it returns false'. Refute it at one input. -/
def nfsxProcsWrong : ChangeSpec := { name := "nfsxProcs", fn := fun _ => fun
  | [d1, d2] => { results := [.lit (.bool false)], args := [d1, d2] }
  | _ => none }
def NfsxProcsWrongFalsely : Prop := nfsxProcsRow.holds Try.pinned (OpenSpec.ofChange nfsxProcsWrong)

/- THE SECOND FORM. 'bulk': how many values and letters a reading holds, each counted each time it is reached (what is shared counts as often as it is met; a slice's spare places count too). A statement '..UptoSaid' is the law's where the arguments, and the package variables that the reading takes, are together of bulk at most 1048576: NARROWER than '..Said'. Prove '..Said' where nothing that the law and all that it calls make is longer than what came in: it says more and counts as full. Else prove '..UptoSaid'. A law counts once. -/
mutual
def uptoBulk {H : Type} : DataW H → Nat
  | .lit (.string bytes) => bytes.length + 1
  | .lit _ => 1
  | .nil => 1
  | .ptr d => uptoBulk d + 1
  | .slice elems spare => uptoBulkAll elems + uptoBulkAll spare + 1
  | .agg parts => uptoBulkAll parts + 1
  | .iface _ d => uptoBulk d + 1
  | .map entries => uptoBulkEntries entries + 1
  | .held _ => 1
def uptoBulkAll {H : Type} : List (DataW H) → Nat
  | [] => 0
  | d :: r => uptoBulk d + uptoBulkAll r
def uptoBulkEntries {H : Type} : List (Lit × DataW H) → Nat
  | [] => 0
  | x :: r => uptoBulkEntry x + uptoBulkEntries r
def uptoBulkEntry {H : Type} : Lit × DataW H → Nat
  | (.string bytes, d) => bytes.length + uptoBulk d + 1
  | (_, d) => uptoBulk d + 1
 end
def uptoSmall : (H : Type) → List (DataW H) → Bool := fun _ ds => decide (uptoBulkAll ds ≤ 1048576)
def OpenSpec.upto (s : _root_.Go.ChangeSpec) : _root_.Go.OpenSpec := { _root_.Go.OpenSpec.ofChange s with cond := some uptoSmall }

/-- 'undercroftlaw19.NfsxArgs', WHERE WHAT IT READS IS OF BULK AT MOST 1048576: true; the input reads as it did. -/
def nfsxArgsUptoRow : OpenClaim := { program := "ytanknjpcgceccaa", sum := "298b6c89677963de0bec4e0badf7141fe17787f0ca7deb0e1261a43271f35d2b", func := "undercroft/undercroftlaw19.NfsxArgs", spec := "nfsxArgs", apart := false, narrowed := true }
def NfsxArgsUptoSaid : Prop := nfsxArgsUptoRow.holds Try.pinned (OpenSpec.upto nfsxArgsSpec)

/-- 'undercroftlaw19.NfsxSame', WHERE WHAT IT READS IS OF BULK AT MOST 1048576: true; the input reads as it did. -/
def nfsxSameUptoRow : OpenClaim := { program := "ytanknjpcgceccaa", sum := "298b6c89677963de0bec4e0badf7141fe17787f0ca7deb0e1261a43271f35d2b", func := "undercroft/undercroftlaw19.NfsxSame", spec := "nfsxSame", apart := false, narrowed := true }
def NfsxSameUptoSaid : Prop := nfsxSameUptoRow.holds Try.pinned (OpenSpec.upto nfsxSameSpec)

/-- 'undercroftlaw19.NfsxLimits', WHERE WHAT IT READS IS OF BULK AT MOST 1048576: true; the input reads as it did. -/
def nfsxLimitsUptoRow : OpenClaim := { program := "ytanknjpcgceccaa", sum := "298b6c89677963de0bec4e0badf7141fe17787f0ca7deb0e1261a43271f35d2b", func := "undercroft/undercroftlaw19.NfsxLimits", spec := "nfsxLimits", apart := false, narrowed := true }
def NfsxLimitsUptoSaid : Prop := nfsxLimitsUptoRow.holds Try.pinned (OpenSpec.upto nfsxLimitsSpec)

/-- 'undercroftlaw19.NfsxBack', WHERE WHAT IT READS IS OF BULK AT MOST 1048576: true; the input reads as it did. -/
def nfsxBackUptoRow : OpenClaim := { program := "ytanknjpcgceccaa", sum := "298b6c89677963de0bec4e0badf7141fe17787f0ca7deb0e1261a43271f35d2b", func := "undercroft/undercroftlaw19.NfsxBack", spec := "nfsxBack", apart := false, narrowed := true }
def NfsxBackUptoSaid : Prop := nfsxBackUptoRow.holds Try.pinned (OpenSpec.upto nfsxBackSpec)

/-- 'undercroftlaw19.NfsxProcs', WHERE WHAT IT READS IS OF BULK AT MOST 1048576: true; the input reads as it did. -/
def nfsxProcsUptoRow : OpenClaim := { program := "ytanknjpcgceccaa", sum := "298b6c89677963de0bec4e0badf7141fe17787f0ca7deb0e1261a43271f35d2b", func := "undercroft/undercroftlaw19.NfsxProcs", spec := "nfsxProcs", apart := false, narrowed := true }
def NfsxProcsUptoSaid : Prop := nfsxProcsUptoRow.holds Try.pinned (OpenSpec.upto nfsxProcsSpec)

end Rows
end Go.Proofs.Ytanknjpcgceccaa
