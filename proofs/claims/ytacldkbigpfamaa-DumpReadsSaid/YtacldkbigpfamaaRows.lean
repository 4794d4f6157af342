/-
  No cell of these rows narrows 'for every input' (looked for: loops, veiled, ifaces, maps, wideKeys, modest, calm, conditions, laid).
  DERIVED. THE GIVEN ROWS OF THIS SEAT. 2 by the template 'for every input the law returns true; each argument reads behind the call as it read before'; 0 by the template 'total and deterministic' (their statements: YtacldkbigpfamaaTotals.lean).
  GIVEN WITH THE SEED: the statements are not yours to turn. If you find one false, say at which input.
  Laid BY PROGRAM, IN A SANDBOX (cutbox-rows.mjs): the forced cells as the released guide's own fill.sh prints them over the translation c0c035d7aae5bf0e… (all of the seat's roots in one cut). By AI agents, Wed Nov 11 2026. No macro, syntax, notation, axiom, sorry.
-/
import Derived.Test.YtacldkbigpfamaaChecked
import GoSem.Claim
import GoSem.ClaimJoined
import GoSem.ClaimMapViews
import Derived.JoinedTies
import Derived.KernelRfl
namespace Go.Proofs.Ytacldkbigpfamaa
/- THE CELL 'sum', in the pinned program and in every row, IS THE sha256 OF THE DUMP (.gsa) THAT YtacldkbigpfamaaProg.lean LOADS. Nothing in Lean hashes anything: it is a label: what it is worth is what the hold of that sum in a sandbox is worth. -/
noncomputable def Try.pinned : Pinned := { name := "ytacldkbigpfamaa", sum := "c0c035d7aae5bf0e773fab0b9c0a0aeb56f8bb9b245df3fb49aeb8c8ead531d1", checked := Try.checked }
namespace Rows
def none {H : Type} : Left H := { results := [], args := [] }

/-- 'sluicegatelaw38.DumpTexts': WHATEVER THE INPUT: true; the input reads as it did. -/
def dumpTextsSpec : ChangeSpec := { name := "dumpTexts", fn := fun _ => fun
  | [d] => { results := [.lit (.bool true)], args := [d] }
  | _ => none }
def dumpTextsRow : OpenClaim := { program := "ytacldkbigpfamaa", sum := "c0c035d7aae5bf0e773fab0b9c0a0aeb56f8bb9b245df3fb49aeb8c8ead531d1", func := "sluicegate/sluicegatelaw38.DumpTexts", spec := "dumpTexts", inPlace := ["internal/abi.NoEscape", "internal/bytealg.IndexByteString", "internal/bytealg.IndexString"], named := ["internal/bytealg.MaxLen"], apart := false }
def DumpTextsSaid : Prop := dumpTextsRow.holds Try.pinned (OpenSpec.ofChange dumpTextsSpec)

/-- ITS FALSE NEIGHBOUR: 'it returns false'. Refute it at one input. -/
def dumpTextsWrong : ChangeSpec := { name := "dumpTexts", fn := fun _ => fun
  | [d] => { results := [.lit (.bool false)], args := [d] }
  | _ => none }
def DumpTextsWrongFalsely : Prop := dumpTextsRow.holds Try.pinned (OpenSpec.ofChange dumpTextsWrong)

/-- 'sluicegatelaw38.DumpReads': WHATEVER THE INPUT: true; the input reads as it did. -/
def dumpReadsSpec : ChangeSpec := { name := "dumpReads", fn := fun _ => fun
  | [d] => { results := [.lit (.bool true)], args := [d] }
  | _ => none }
def dumpReadsRow : OpenClaim := { program := "ytacldkbigpfamaa", sum := "c0c035d7aae5bf0e773fab0b9c0a0aeb56f8bb9b245df3fb49aeb8c8ead531d1", func := "sluicegate/sluicegatelaw38.DumpReads", spec := "dumpReads", inPlace := ["internal/abi.NoEscape", "internal/bytealg.IndexByteString", "internal/bytealg.IndexString"], named := ["internal/bytealg.MaxLen"], apart := false }
def DumpReadsSaid : Prop := dumpReadsRow.holds Try.pinned (OpenSpec.ofChange dumpReadsSpec)

/-- ITS FALSE NEIGHBOUR: 'it returns false'. Refute it at one input. -/
def dumpReadsWrong : ChangeSpec := { name := "dumpReads", fn := fun _ => fun
  | [d] => { results := [.lit (.bool false)], args := [d] }
  | _ => none }
def DumpReadsWrongFalsely : Prop := dumpReadsRow.holds Try.pinned (OpenSpec.ofChange dumpReadsWrong)

/- THE SECOND FORM. 'bulk': how many values and letters a reading holds, each counted each time it is reached (what is shared counts as often as it is met; a slice's spare places count too). A statement '..UptoSaid' is the law's where the arguments, and the package variables that the reading takes, are together of bulk at most 1048576: NARROWER than '..Said'. Prove '..Said' where nothing that the law and all that it calls make is longer than what came in: it says more and counts as full. Else prove '..UptoSaid'. A law counts once. -/
mutual
def uptoBulk {H : Type} : DataW H → Nat
  | .lit (.string bytes) => bytes.length + 1
  | .lit _ => 1
  | .nil => 1
  | .ptr d => uptoBulk d + 1
  | .slice elems spare => uptoBulkAll elems + uptoBulkAll spare + 1
  | .agg parts => uptoBulkAll parts + 1
  | .iface _ d => uptoBulk d + 1
  | .map entries => uptoBulkEntries entries + 1
  | .held _ => 1
def uptoBulkAll {H : Type} : List (DataW H) → Nat
  | [] => 0
  | d :: r => uptoBulk d + uptoBulkAll r
def uptoBulkEntries {H : Type} : List (Lit × DataW H) → Nat
  | [] => 0
  | x :: r => uptoBulkEntry x + uptoBulkEntries r
def uptoBulkEntry {H : Type} : Lit × DataW H → Nat
  | (.string bytes, d) => bytes.length + uptoBulk d + 1
  | (_, d) => uptoBulk d + 1
 end
def uptoSmall : (H : Type) → List (DataW H) → Bool := fun _ ds => decide (uptoBulkAll ds ≤ 1048576)
def OpenSpec.upto (s : _root_.Go.ChangeSpec) : _root_.Go.OpenSpec := { _root_.Go.OpenSpec.ofChange s with cond := some uptoSmall }

/-- 'sluicegatelaw38.DumpTexts', WHERE WHAT IT READS IS OF BULK AT MOST 1048576: true; the input reads as it did. -/
def dumpTextsUptoRow : OpenClaim := { program := "ytacldkbigpfamaa", sum := "c0c035d7aae5bf0e773fab0b9c0a0aeb56f8bb9b245df3fb49aeb8c8ead531d1", func := "sluicegate/sluicegatelaw38.DumpTexts", spec := "dumpTexts", inPlace := ["internal/abi.NoEscape", "internal/bytealg.IndexByteString", "internal/bytealg.IndexString"], named := ["internal/bytealg.MaxLen"], apart := false, narrowed := true }
def DumpTextsUptoSaid : Prop := dumpTextsUptoRow.holds Try.pinned (OpenSpec.upto dumpTextsSpec)

/-- 'sluicegatelaw38.DumpReads', WHERE WHAT IT READS IS OF BULK AT MOST 1048576: true; the input reads as it did. -/
def dumpReadsUptoRow : OpenClaim := { program := "ytacldkbigpfamaa", sum := "c0c035d7aae5bf0e773fab0b9c0a0aeb56f8bb9b245df3fb49aeb8c8ead531d1", func := "sluicegate/sluicegatelaw38.DumpReads", spec := "dumpReads", inPlace := ["internal/abi.NoEscape", "internal/bytealg.IndexByteString", "internal/bytealg.IndexString"], named := ["internal/bytealg.MaxLen"], apart := false, narrowed := true }
def DumpReadsUptoSaid : Prop := dumpReadsUptoRow.holds Try.pinned (OpenSpec.upto dumpReadsSpec)

end Rows
end Go.Proofs.Ytacldkbigpfamaa
