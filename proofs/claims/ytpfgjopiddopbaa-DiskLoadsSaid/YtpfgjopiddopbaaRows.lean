/-
  No cell of these rows narrows 'for every input' (looked for: loops, veiled, ifaces, maps, wideKeys, modest, calm, conditions, laid).
  DERIVED. THE GIVEN ROWS OF THIS SEAT. 7 by the template 'for every input the law returns true; each argument reads behind the call as it read before'; 0 by the template 'total and deterministic' (their statements: YtpfgjopiddopbaaTotals.lean).
  GIVEN WITH THE SEED: the statements are not yours to turn. If you find one false, say at which input.
  Laid BY PROGRAM, IN A SANDBOX (cutbox-rows.mjs): the forced cells as the released guide's own fill.sh prints them over the translation 6e6f1dc4ebd4b13b… (all of the seat's roots in one cut). By AI agents, Wed Nov 11 2026. No macro, syntax, notation, axiom, sorry.
-/
import Derived.Test.YtpfgjopiddopbaaChecked
import GoSem.Claim
import GoSem.ClaimJoined
import GoSem.ClaimMapViews
import Derived.JoinedTies
import Derived.KernelRfl
namespace Go.Proofs.Ytpfgjopiddopbaa
/- THE CELL 'sum', in the pinned program and in every row, IS THE sha256 OF THE DUMP (.gsa) THAT YtpfgjopiddopbaaProg.lean LOADS. Nothing in Lean hashes anything: it is a label: what it is worth is what the hold of that sum in a sandbox is worth. -/
noncomputable def Try.pinned : Pinned := { name := "ytpfgjopiddopbaa", sum := "6e6f1dc4ebd4b13bd1fbaedef22a9d5f74fb267f0f2c5328611d7a3ee1afa306", checked := Try.checked }
namespace Rows
def none {H : Type} : Left H := { results := [], args := [] }

/-- 'ciboriumlaw07.DiskArms': WHATEVER THE INPUT: true; the input reads as it did. -/
def diskArmsSpec : ChangeSpec := { name := "diskArms", fn := fun _ => fun
  | [d1, d2] => { results := [.lit (.bool true)], args := [d1, d2] }
  | _ => none }
def diskArmsRow : OpenClaim := { program := "ytpfgjopiddopbaa", sum := "6e6f1dc4ebd4b13bd1fbaedef22a9d5f74fb267f0f2c5328611d7a3ee1afa306", func := "ciborium/ciboriumlaw07.DiskArms", spec := "diskArms", apart := false }
def DiskArmsSaid : Prop := diskArmsRow.holds Try.pinned (OpenSpec.ofChange diskArmsSpec)

/-- ITS FALSE NEIGHBOUR: 'it returns false'. Refute it at one input. -/
def diskArmsWrong : ChangeSpec := { name := "diskArms", fn := fun _ => fun
  | [d1, d2] => { results := [.lit (.bool false)], args := [d1, d2] }
  | _ => none }
def DiskArmsWrongFalsely : Prop := diskArmsRow.holds Try.pinned (OpenSpec.ofChange diskArmsWrong)

/-- 'ciboriumlaw07.DiskPlays': WHATEVER THE INPUT: true; the input reads as it did. -/
def diskPlaysSpec : ChangeSpec := { name := "diskPlays", fn := fun _ => fun
  | [d1, d2] => { results := [.lit (.bool true)], args := [d1, d2] }
  | _ => none }
def diskPlaysRow : OpenClaim := { program := "ytpfgjopiddopbaa", sum := "6e6f1dc4ebd4b13bd1fbaedef22a9d5f74fb267f0f2c5328611d7a3ee1afa306", func := "ciborium/ciboriumlaw07.DiskPlays", spec := "diskPlays", recurses := true, apart := false }
def DiskPlaysSaid : Prop := diskPlaysRow.holds Try.pinned (OpenSpec.ofChange diskPlaysSpec)

/-- ITS FALSE NEIGHBOUR: 'it returns false'. Refute it at one input. -/
def diskPlaysWrong : ChangeSpec := { name := "diskPlays", fn := fun _ => fun
  | [d1, d2] => { results := [.lit (.bool false)], args := [d1, d2] }
  | _ => none }
def DiskPlaysWrongFalsely : Prop := diskPlaysRow.holds Try.pinned (OpenSpec.ofChange diskPlaysWrong)

/-- 'ciboriumlaw07.DiskLasts': WHATEVER THE INPUT: true; the input reads as it did. -/
def diskLastsSpec : ChangeSpec := { name := "diskLasts", fn := fun _ => fun
  | [d1, d2, d3, d4] => { results := [.lit (.bool true)], args := [d1, d2, d3, d4] }
  | _ => none }
def diskLastsRow : OpenClaim := { program := "ytpfgjopiddopbaa", sum := "6e6f1dc4ebd4b13bd1fbaedef22a9d5f74fb267f0f2c5328611d7a3ee1afa306", func := "ciborium/ciboriumlaw07.DiskLasts", spec := "diskLasts", recurses := true, apart := false }
def DiskLastsSaid : Prop := diskLastsRow.holds Try.pinned (OpenSpec.ofChange diskLastsSpec)

/-- ITS FALSE NEIGHBOUR: 'it returns false'. Refute it at one input. -/
def diskLastsWrong : ChangeSpec := { name := "diskLasts", fn := fun _ => fun
  | [d1, d2, d3, d4] => { results := [.lit (.bool false)], args := [d1, d2, d3, d4] }
  | _ => none }
def DiskLastsWrongFalsely : Prop := diskLastsRow.holds Try.pinned (OpenSpec.ofChange diskLastsWrong)

/-- 'ciboriumlaw07.DiskChoice': WHATEVER THE INPUT: true; the input reads as it did. -/
def diskChoiceSpec : ChangeSpec := { name := "diskChoice", fn := fun _ => fun
  | [d1, d2, d3] => { results := [.lit (.bool true)], args := [d1, d2, d3] }
  | _ => none }
def diskChoiceRow : OpenClaim := { program := "ytpfgjopiddopbaa", sum := "6e6f1dc4ebd4b13bd1fbaedef22a9d5f74fb267f0f2c5328611d7a3ee1afa306", func := "ciborium/ciboriumlaw07.DiskChoice", spec := "diskChoice", recurses := true, apart := false }
def DiskChoiceSaid : Prop := diskChoiceRow.holds Try.pinned (OpenSpec.ofChange diskChoiceSpec)

/-- ITS FALSE NEIGHBOUR: 'it returns false'. Refute it at one input. -/
def diskChoiceWrong : ChangeSpec := { name := "diskChoice", fn := fun _ => fun
  | [d1, d2, d3] => { results := [.lit (.bool false)], args := [d1, d2, d3] }
  | _ => none }
def DiskChoiceWrongFalsely : Prop := diskChoiceRow.holds Try.pinned (OpenSpec.ofChange diskChoiceWrong)

/-- 'ciboriumlaw07.DiskBlind': WHATEVER THE INPUT: true; the input reads as it did. -/
def diskBlindSpec : ChangeSpec := { name := "diskBlind", fn := fun _ => fun
  | [d1, d2] => { results := [.lit (.bool true)], args := [d1, d2] }
  | _ => none }
def diskBlindRow : OpenClaim := { program := "ytpfgjopiddopbaa", sum := "6e6f1dc4ebd4b13bd1fbaedef22a9d5f74fb267f0f2c5328611d7a3ee1afa306", func := "ciborium/ciboriumlaw07.DiskBlind", spec := "diskBlind", recurses := true, apart := false }
def DiskBlindSaid : Prop := diskBlindRow.holds Try.pinned (OpenSpec.ofChange diskBlindSpec)

/-- ITS FALSE NEIGHBOUR: 'it returns false'. Refute it at one input. -/
def diskBlindWrong : ChangeSpec := { name := "diskBlind", fn := fun _ => fun
  | [d1, d2] => { results := [.lit (.bool false)], args := [d1, d2] }
  | _ => none }
def DiskBlindWrongFalsely : Prop := diskBlindRow.holds Try.pinned (OpenSpec.ofChange diskBlindWrong)

/-- 'ciboriumlaw07.DiskNil': WHATEVER THE INPUT: true; the input reads as it did. -/
def diskNilSpec : ChangeSpec := { name := "diskNil", fn := fun _ => fun
  | [d] => { results := [.lit (.bool true)], args := [d] }
  | _ => none }
def diskNilRow : OpenClaim := { program := "ytpfgjopiddopbaa", sum := "6e6f1dc4ebd4b13bd1fbaedef22a9d5f74fb267f0f2c5328611d7a3ee1afa306", func := "ciborium/ciboriumlaw07.DiskNil", spec := "diskNil", recurses := true, apart := false }
def DiskNilSaid : Prop := diskNilRow.holds Try.pinned (OpenSpec.ofChange diskNilSpec)

/-- ITS FALSE NEIGHBOUR: 'it returns false'. Refute it at one input. -/
def diskNilWrong : ChangeSpec := { name := "diskNil", fn := fun _ => fun
  | [d] => { results := [.lit (.bool false)], args := [d] }
  | _ => none }
def DiskNilWrongFalsely : Prop := diskNilRow.holds Try.pinned (OpenSpec.ofChange diskNilWrong)

/-- 'ciboriumlaw07.DiskLoads': WHATEVER THE INPUT: true; the input reads as it did. -/
def diskLoadsSpec : ChangeSpec := { name := "diskLoads", fn := fun _ => fun
  | [d1, d2] => { results := [.lit (.bool true)], args := [d1, d2] }
  | _ => none }
def diskLoadsRow : OpenClaim := { program := "ytpfgjopiddopbaa", sum := "6e6f1dc4ebd4b13bd1fbaedef22a9d5f74fb267f0f2c5328611d7a3ee1afa306", func := "ciborium/ciboriumlaw07.DiskLoads", spec := "diskLoads", recurses := true, apart := false }
def DiskLoadsSaid : Prop := diskLoadsRow.holds Try.pinned (OpenSpec.ofChange diskLoadsSpec)

/-- ITS FALSE NEIGHBOUR: 'it returns false'. Refute it at one input. -/
def diskLoadsWrong : ChangeSpec := { name := "diskLoads", fn := fun _ => fun
  | [d1, d2] => { results := [.lit (.bool false)], args := [d1, d2] }
  | _ => none }
def DiskLoadsWrongFalsely : Prop := diskLoadsRow.holds Try.pinned (OpenSpec.ofChange diskLoadsWrong)

/- THE SECOND FORM. 'bulk': how many values and letters a reading holds, each counted each time it is reached (what is shared counts as often as it is met; a slice's spare places count too). A statement '..UptoSaid' is the law's where the arguments, and the package variables that the reading takes, are together of bulk at most 1048576: NARROWER than '..Said'. Prove '..Said' where nothing that the law and all that it calls make is longer than what came in: it says more and counts as full. Else prove '..UptoSaid'. A law counts once. -/
mutual
def uptoBulk {H : Type} : DataW H → Nat
  | .lit (.string bytes) => bytes.length + 1
  | .lit _ => 1
  | .nil => 1
  | .ptr d => uptoBulk d + 1
  | .slice elems spare => uptoBulkAll elems + uptoBulkAll spare + 1
  | .agg parts => uptoBulkAll parts + 1
  | .iface _ d => uptoBulk d + 1
  | .map entries => uptoBulkEntries entries + 1
  | .held _ => 1
def uptoBulkAll {H : Type} : List (DataW H) → Nat
  | [] => 0
  | d :: r => uptoBulk d + uptoBulkAll r
def uptoBulkEntries {H : Type} : List (Lit × DataW H) → Nat
  | [] => 0
  | x :: r => uptoBulkEntry x + uptoBulkEntries r
def uptoBulkEntry {H : Type} : Lit × DataW H → Nat
  | (.string bytes, d) => bytes.length + uptoBulk d + 1
  | (_, d) => uptoBulk d + 1
 end
def uptoSmall : (H : Type) → List (DataW H) → Bool := fun _ ds => decide (uptoBulkAll ds ≤ 1048576)
def OpenSpec.upto (s : _root_.Go.ChangeSpec) : _root_.Go.OpenSpec := { _root_.Go.OpenSpec.ofChange s with cond := some uptoSmall }

/-- 'ciboriumlaw07.DiskArms', WHERE WHAT IT READS IS OF BULK AT MOST 1048576: true; the input reads as it did. -/
def diskArmsUptoRow : OpenClaim := { program := "ytpfgjopiddopbaa", sum := "6e6f1dc4ebd4b13bd1fbaedef22a9d5f74fb267f0f2c5328611d7a3ee1afa306", func := "ciborium/ciboriumlaw07.DiskArms", spec := "diskArms", apart := false, narrowed := true }
def DiskArmsUptoSaid : Prop := diskArmsUptoRow.holds Try.pinned (OpenSpec.upto diskArmsSpec)

/-- 'ciboriumlaw07.DiskPlays', WHERE WHAT IT READS IS OF BULK AT MOST 1048576: true; the input reads as it did. -/
def diskPlaysUptoRow : OpenClaim := { program := "ytpfgjopiddopbaa", sum := "6e6f1dc4ebd4b13bd1fbaedef22a9d5f74fb267f0f2c5328611d7a3ee1afa306", func := "ciborium/ciboriumlaw07.DiskPlays", spec := "diskPlays", recurses := true, apart := false, narrowed := true }
def DiskPlaysUptoSaid : Prop := diskPlaysUptoRow.holds Try.pinned (OpenSpec.upto diskPlaysSpec)

/-- 'ciboriumlaw07.DiskLasts', WHERE WHAT IT READS IS OF BULK AT MOST 1048576: true; the input reads as it did. -/
def diskLastsUptoRow : OpenClaim := { program := "ytpfgjopiddopbaa", sum := "6e6f1dc4ebd4b13bd1fbaedef22a9d5f74fb267f0f2c5328611d7a3ee1afa306", func := "ciborium/ciboriumlaw07.DiskLasts", spec := "diskLasts", recurses := true, apart := false, narrowed := true }
def DiskLastsUptoSaid : Prop := diskLastsUptoRow.holds Try.pinned (OpenSpec.upto diskLastsSpec)

/-- 'ciboriumlaw07.DiskChoice', WHERE WHAT IT READS IS OF BULK AT MOST 1048576: true; the input reads as it did. -/
def diskChoiceUptoRow : OpenClaim := { program := "ytpfgjopiddopbaa", sum := "6e6f1dc4ebd4b13bd1fbaedef22a9d5f74fb267f0f2c5328611d7a3ee1afa306", func := "ciborium/ciboriumlaw07.DiskChoice", spec := "diskChoice", recurses := true, apart := false, narrowed := true }
def DiskChoiceUptoSaid : Prop := diskChoiceUptoRow.holds Try.pinned (OpenSpec.upto diskChoiceSpec)

/-- 'ciboriumlaw07.DiskBlind', WHERE WHAT IT READS IS OF BULK AT MOST 1048576: true; the input reads as it did. -/
def diskBlindUptoRow : OpenClaim := { program := "ytpfgjopiddopbaa", sum := "6e6f1dc4ebd4b13bd1fbaedef22a9d5f74fb267f0f2c5328611d7a3ee1afa306", func := "ciborium/ciboriumlaw07.DiskBlind", spec := "diskBlind", recurses := true, apart := false, narrowed := true }
def DiskBlindUptoSaid : Prop := diskBlindUptoRow.holds Try.pinned (OpenSpec.upto diskBlindSpec)

/-- 'ciboriumlaw07.DiskNil', WHERE WHAT IT READS IS OF BULK AT MOST 1048576: true; the input reads as it did. -/
def diskNilUptoRow : OpenClaim := { program := "ytpfgjopiddopbaa", sum := "6e6f1dc4ebd4b13bd1fbaedef22a9d5f74fb267f0f2c5328611d7a3ee1afa306", func := "ciborium/ciboriumlaw07.DiskNil", spec := "diskNil", recurses := true, apart := false, narrowed := true }
def DiskNilUptoSaid : Prop := diskNilUptoRow.holds Try.pinned (OpenSpec.upto diskNilSpec)

/-- 'ciboriumlaw07.DiskLoads', WHERE WHAT IT READS IS OF BULK AT MOST 1048576: true; the input reads as it did. -/
def diskLoadsUptoRow : OpenClaim := { program := "ytpfgjopiddopbaa", sum := "6e6f1dc4ebd4b13bd1fbaedef22a9d5f74fb267f0f2c5328611d7a3ee1afa306", func := "ciborium/ciboriumlaw07.DiskLoads", spec := "diskLoads", recurses := true, apart := false, narrowed := true }
def DiskLoadsUptoSaid : Prop := diskLoadsUptoRow.holds Try.pinned (OpenSpec.upto diskLoadsSpec)

end Rows
end Go.Proofs.Ytpfgjopiddopbaa
