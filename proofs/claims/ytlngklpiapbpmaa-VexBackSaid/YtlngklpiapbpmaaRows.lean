/-
  No cell of these rows narrows 'for every input' (looked for: loops, veiled, ifaces, maps, wideKeys, modest, calm, conditions, laid).
  DERIVED. THE GIVEN ROWS OF THIS SEAT. 3 by the template 'for every input the law returns true; each argument reads behind the call as it read before'; 0 by the template 'total and deterministic' (their statements: YtlngklpiapbpmaaTotals.lean).
  GIVEN WITH THE SEED: the statements are not yours to turn. If you find one false, say at which input.
  Laid BY PROGRAM, IN A SANDBOX (cutbox-rows.mjs): the forced cells as the released guide's own fill.sh prints them over the translation ad2b762a20563d2e… (all of the seat's roots in one cut). By AI agents, Wed Nov 11 2026. No macro, syntax, notation, axiom, sorry.
-/
import Derived.Test.YtlngklpiapbpmaaChecked
import GoSem.Claim
import GoSem.ClaimJoined
import GoSem.ClaimMapViews
import Derived.JoinedTies
import Derived.KernelRfl
namespace Go.Proofs.Ytlngklpiapbpmaa
/- THE CELL 'sum', in the pinned program and in every row, IS THE sha256 OF THE DUMP (.gsa) THAT YtlngklpiapbpmaaProg.lean LOADS. Nothing in Lean hashes anything: it is a label: what it is worth is what the hold of that sum in a sandbox is worth. -/
noncomputable def Try.pinned : Pinned := { name := "ytlngklpiapbpmaa", sum := "ad2b762a20563d2ef92054dc9d2bf32f5143b846a64d38881a41826e714e92f0", checked := Try.checked }
namespace Rows
def none {H : Type} : Left H := { results := [], args := [] }

/-- 'linotypelaw11.VexReads': WHATEVER THE INPUT: true; the input reads as it did. -/
def vexReadsSpec : ChangeSpec := { name := "vexReads", fn := fun _ => fun
  | [d] => { results := [.lit (.bool true)], args := [d] }
  | _ => none }
def vexReadsRow : OpenClaim := { program := "ytlngklpiapbpmaa", sum := "ad2b762a20563d2ef92054dc9d2bf32f5143b846a64d38881a41826e714e92f0", func := "linotype/linotypelaw11.VexReads", spec := "vexReads", apart := false }
def VexReadsSaid : Prop := vexReadsRow.holds Try.pinned (OpenSpec.ofChange vexReadsSpec)

/-- ITS FALSE NEIGHBOUR: 'it returns false'. Refute it at one input. -/
def vexReadsWrong : ChangeSpec := { name := "vexReads", fn := fun _ => fun
  | [d] => { results := [.lit (.bool false)], args := [d] }
  | _ => none }
def VexReadsWrongFalsely : Prop := vexReadsRow.holds Try.pinned (OpenSpec.ofChange vexReadsWrong)

/-- 'linotypelaw11.VexKnown': WHATEVER THE INPUT: true; the input reads as it did. -/
def vexKnownSpec : ChangeSpec := { name := "vexKnown", fn := fun _ => fun
  | [] => { results := [.lit (.bool true)], args := [] }
  | _ => none }
def vexKnownRow : OpenClaim := { program := "ytlngklpiapbpmaa", sum := "ad2b762a20563d2ef92054dc9d2bf32f5143b846a64d38881a41826e714e92f0", func := "linotype/linotypelaw11.VexKnown", spec := "vexKnown", apart := false }
def VexKnownSaid : Prop := vexKnownRow.holds Try.pinned (OpenSpec.ofChange vexKnownSpec)

/-- ITS FALSE NEIGHBOUR: 'it returns false'. Refute it at one input. -/
def vexKnownWrong : ChangeSpec := { name := "vexKnown", fn := fun _ => fun
  | [] => { results := [.lit (.bool false)], args := [] }
  | _ => none }
def VexKnownWrongFalsely : Prop := vexKnownRow.holds Try.pinned (OpenSpec.ofChange vexKnownWrong)

/-- 'linotypelaw11.VexBack': WHATEVER THE INPUT: true; the input reads as it did. -/
def vexBackSpec : ChangeSpec := { name := "vexBack", fn := fun _ => fun
  | [d1, d2, d3] => { results := [.lit (.bool true)], args := [d1, d2, d3] }
  | _ => none }
def vexBackRow : OpenClaim := { program := "ytlngklpiapbpmaa", sum := "ad2b762a20563d2ef92054dc9d2bf32f5143b846a64d38881a41826e714e92f0", func := "linotype/linotypelaw11.VexBack", spec := "vexBack", apart := false }
def VexBackSaid : Prop := vexBackRow.holds Try.pinned (OpenSpec.ofChange vexBackSpec)

/-- ITS FALSE NEIGHBOUR: 'it returns false'. Refute it at one input. -/
def vexBackWrong : ChangeSpec := { name := "vexBack", fn := fun _ => fun
  | [d1, d2, d3] => { results := [.lit (.bool false)], args := [d1, d2, d3] }
  | _ => none }
def VexBackWrongFalsely : Prop := vexBackRow.holds Try.pinned (OpenSpec.ofChange vexBackWrong)

/- THE SECOND FORM. 'bulk': how many values and letters a reading holds, each counted each time it is reached (what is shared counts as often as it is met; a slice's spare places count too). A statement '..UptoSaid' is the law's where the arguments, and the package variables that the reading takes, are together of bulk at most 1048576: NARROWER than '..Said'. Prove '..Said' where nothing that the law and all that it calls make is longer than what came in: it says more and counts as full. Else prove '..UptoSaid'. A law counts once. -/
mutual
def uptoBulk {H : Type} : DataW H → Nat
  | .lit (.string bytes) => bytes.length + 1
  | .lit _ => 1
  | .nil => 1
  | .ptr d => uptoBulk d + 1
  | .slice elems spare => uptoBulkAll elems + uptoBulkAll spare + 1
  | .agg parts => uptoBulkAll parts + 1
  | .iface _ d => uptoBulk d + 1
  | .map entries => uptoBulkEntries entries + 1
  | .held _ => 1
def uptoBulkAll {H : Type} : List (DataW H) → Nat
  | [] => 0
  | d :: r => uptoBulk d + uptoBulkAll r
def uptoBulkEntries {H : Type} : List (Lit × DataW H) → Nat
  | [] => 0
  | x :: r => uptoBulkEntry x + uptoBulkEntries r
def uptoBulkEntry {H : Type} : Lit × DataW H → Nat
  | (.string bytes, d) => bytes.length + uptoBulk d + 1
  | (_, d) => uptoBulk d + 1
 end
def uptoSmall : (H : Type) → List (DataW H) → Bool := fun _ ds => decide (uptoBulkAll ds ≤ 1048576)
def OpenSpec.upto (s : _root_.Go.ChangeSpec) : _root_.Go.OpenSpec := { _root_.Go.OpenSpec.ofChange s with cond := some uptoSmall }

/-- 'linotypelaw11.VexReads', WHERE WHAT IT READS IS OF BULK AT MOST 1048576: true; the input reads as it did. -/
def vexReadsUptoRow : OpenClaim := { program := "ytlngklpiapbpmaa", sum := "ad2b762a20563d2ef92054dc9d2bf32f5143b846a64d38881a41826e714e92f0", func := "linotype/linotypelaw11.VexReads", spec := "vexReads", apart := false, narrowed := true }
def VexReadsUptoSaid : Prop := vexReadsUptoRow.holds Try.pinned (OpenSpec.upto vexReadsSpec)

/-- 'linotypelaw11.VexKnown', WHERE WHAT IT READS IS OF BULK AT MOST 1048576: true; the input reads as it did. -/
def vexKnownUptoRow : OpenClaim := { program := "ytlngklpiapbpmaa", sum := "ad2b762a20563d2ef92054dc9d2bf32f5143b846a64d38881a41826e714e92f0", func := "linotype/linotypelaw11.VexKnown", spec := "vexKnown", apart := false, narrowed := true }
def VexKnownUptoSaid : Prop := vexKnownUptoRow.holds Try.pinned (OpenSpec.upto vexKnownSpec)

/-- 'linotypelaw11.VexBack', WHERE WHAT IT READS IS OF BULK AT MOST 1048576: true; the input reads as it did. -/
def vexBackUptoRow : OpenClaim := { program := "ytlngklpiapbpmaa", sum := "ad2b762a20563d2ef92054dc9d2bf32f5143b846a64d38881a41826e714e92f0", func := "linotype/linotypelaw11.VexBack", spec := "vexBack", apart := false, narrowed := true }
def VexBackUptoSaid : Prop := vexBackUptoRow.holds Try.pinned (OpenSpec.upto vexBackSpec)

end Rows
end Go.Proofs.Ytlngklpiapbpmaa
