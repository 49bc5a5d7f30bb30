/-
  No cell of these rows narrows 'for every input' (looked for: loops, veiled, ifaces, maps, wideKeys, modest, calm, conditions, laid).
  DERIVED. THE GIVEN ROWS OF THIS SEAT. 9 by the template 'for every input the law returns true; each argument reads behind the call as it read before'; 0 by the template 'total and deterministic' (their statements: YtikhhipgamllgaaTotals.lean).
  GIVEN WITH THE SEED: the statements are not yours to turn. If you find one false, say at which input.
  Laid BY PROGRAM, IN A SANDBOX (cutbox-rows.mjs): the forced cells as the released guide's own fill.sh prints them over the translation c612953f422aff42… (all of the seat's roots in one cut). By AI agents, Wed Nov 11 2026. No macro, syntax, notation, axiom, sorry.
-/
import Derived.Test.YtikhhipgamllgaaChecked
import GoSem.Claim
import GoSem.ClaimJoined
import GoSem.ClaimMapViews
import Derived.JoinedTies
import Derived.KernelRfl
namespace Go.Proofs.Ytikhhipgamllgaa
/- THE CELL 'sum', in the pinned program and in every row, IS THE sha256 OF THE DUMP (.gsa) THAT YtikhhipgamllgaaProg.lean LOADS. Nothing in Lean hashes anything: it is a label: what it is worth is what the hold of that sum in a sandbox is worth. -/
noncomputable def Try.pinned : Pinned := { name := "ytikhhipgamllgaa", sum := "c612953f422aff42ebc4d7e4bb1af553df6bd4617ff494715ecb807256dd0580", checked := Try.checked }
namespace Rows
def none {H : Type} : Left H := { results := [], args := [] }

/-- 'flotsamlaw02.ChoiceFates': WHATEVER THE INPUT: true; the input reads as it did. -/
def choiceFatesSpec : ChangeSpec := { name := "choiceFates", fn := fun _ => fun
  | [d1, d2, d3, d4] => { results := [.lit (.bool true)], args := [d1, d2, d3, d4] }
  | _ => none }
def choiceFatesRow : OpenClaim := { program := "ytikhhipgamllgaa", sum := "c612953f422aff42ebc4d7e4bb1af553df6bd4617ff494715ecb807256dd0580", func := "flotsam/flotsamlaw02.ChoiceFates", spec := "choiceFates", inPlace := ["internal/abi.NoEscape"], plainKeys := false, apart := false }
def ChoiceFatesSaid : Prop := choiceFatesRow.holds Try.pinned (OpenSpec.ofChange choiceFatesSpec)

/-- ITS FALSE NEIGHBOUR: 'it returns false'. Refute it at one input. -/
def choiceFatesWrong : ChangeSpec := { name := "choiceFates", fn := fun _ => fun
  | [d1, d2, d3, d4] => { results := [.lit (.bool false)], args := [d1, d2, d3, d4] }
  | _ => none }
def ChoiceFatesWrongFalsely : Prop := choiceFatesRow.holds Try.pinned (OpenSpec.ofChange choiceFatesWrong)

/-- 'flotsamlaw02.ChoiceOrder': WHATEVER THE INPUT: true; the input reads as it did. -/
def choiceOrderSpec : ChangeSpec := { name := "choiceOrder", fn := fun _ => fun
  | [d1, d2, d3, d4] => { results := [.lit (.bool true)], args := [d1, d2, d3, d4] }
  | _ => none }
def choiceOrderRow : OpenClaim := { program := "ytikhhipgamllgaa", sum := "c612953f422aff42ebc4d7e4bb1af553df6bd4617ff494715ecb807256dd0580", func := "flotsam/flotsamlaw02.ChoiceOrder", spec := "choiceOrder", inPlace := ["internal/abi.NoEscape"], plainKeys := false, apart := false }
def ChoiceOrderSaid : Prop := choiceOrderRow.holds Try.pinned (OpenSpec.ofChange choiceOrderSpec)

/-- ITS FALSE NEIGHBOUR: 'it returns false'. Refute it at one input. -/
def choiceOrderWrong : ChangeSpec := { name := "choiceOrder", fn := fun _ => fun
  | [d1, d2, d3, d4] => { results := [.lit (.bool false)], args := [d1, d2, d3, d4] }
  | _ => none }
def ChoiceOrderWrongFalsely : Prop := choiceOrderRow.holds Try.pinned (OpenSpec.ofChange choiceOrderWrong)

/-- 'flotsamlaw02.ChoiceAllowed': WHATEVER THE INPUT: true; the input reads as it did. -/
def choiceAllowedSpec : ChangeSpec := { name := "choiceAllowed", fn := fun _ => fun
  | [d1, d2, d3, d4] => { results := [.lit (.bool true)], args := [d1, d2, d3, d4] }
  | _ => none }
def choiceAllowedRow : OpenClaim := { program := "ytikhhipgamllgaa", sum := "c612953f422aff42ebc4d7e4bb1af553df6bd4617ff494715ecb807256dd0580", func := "flotsam/flotsamlaw02.ChoiceAllowed", spec := "choiceAllowed", inPlace := ["internal/abi.NoEscape", "internal/bytealg.IndexByteString"], plainKeys := false, apart := false }
def ChoiceAllowedSaid : Prop := choiceAllowedRow.holds Try.pinned (OpenSpec.ofChange choiceAllowedSpec)

/-- ITS FALSE NEIGHBOUR: 'it returns false'. Refute it at one input. -/
def choiceAllowedWrong : ChangeSpec := { name := "choiceAllowed", fn := fun _ => fun
  | [d1, d2, d3, d4] => { results := [.lit (.bool false)], args := [d1, d2, d3, d4] }
  | _ => none }
def ChoiceAllowedWrongFalsely : Prop := choiceAllowedRow.holds Try.pinned (OpenSpec.ofChange choiceAllowedWrong)

/-- 'flotsamlaw02.ChoiceBack': WHATEVER THE INPUT: true; the input reads as it did. -/
def choiceBackSpec : ChangeSpec := { name := "choiceBack", fn := fun _ => fun
  | [d1, d2, d3, d4] => { results := [.lit (.bool true)], args := [d1, d2, d3, d4] }
  | _ => none }
def choiceBackRow : OpenClaim := { program := "ytikhhipgamllgaa", sum := "c612953f422aff42ebc4d7e4bb1af553df6bd4617ff494715ecb807256dd0580", func := "flotsam/flotsamlaw02.ChoiceBack", spec := "choiceBack", inPlace := ["internal/abi.NoEscape", "internal/bytealg.IndexByteString"], plainKeys := false, apart := false }
def ChoiceBackSaid : Prop := choiceBackRow.holds Try.pinned (OpenSpec.ofChange choiceBackSpec)

/-- ITS FALSE NEIGHBOUR: 'it returns false'. Refute it at one input. -/
def choiceBackWrong : ChangeSpec := { name := "choiceBack", fn := fun _ => fun
  | [d1, d2, d3, d4] => { results := [.lit (.bool false)], args := [d1, d2, d3, d4] }
  | _ => none }
def ChoiceBackWrongFalsely : Prop := choiceBackRow.holds Try.pinned (OpenSpec.ofChange choiceBackWrong)

/-- 'flotsamlaw06.CrashChoices': WHATEVER THE INPUT: true; the input reads as it did. -/
def crashChoicesSpec : ChangeSpec := { name := "crashChoices", fn := fun _ => fun
  | [d1, d2, d3, d4] => { results := [.lit (.bool true)], args := [d1, d2, d3, d4] }
  | _ => none }
def crashChoicesRow : OpenClaim := { program := "ytikhhipgamllgaa", sum := "c612953f422aff42ebc4d7e4bb1af553df6bd4617ff494715ecb807256dd0580", func := "flotsam/flotsamlaw06.CrashChoices", spec := "crashChoices", unfollowed := true, recurses := true, plainKeys := false, apart := false }
def CrashChoicesSaid : Prop := crashChoicesRow.holds Try.pinned (OpenSpec.ofChange crashChoicesSpec)

/-- ITS FALSE NEIGHBOUR: 'it returns false'. Refute it at one input. -/
def crashChoicesWrong : ChangeSpec := { name := "crashChoices", fn := fun _ => fun
  | [d1, d2, d3, d4] => { results := [.lit (.bool false)], args := [d1, d2, d3, d4] }
  | _ => none }
def CrashChoicesWrongFalsely : Prop := crashChoicesRow.holds Try.pinned (OpenSpec.ofChange crashChoicesWrong)

/-- 'flotsamlaw05.BdiskReads': WHATEVER THE INPUT: true; the input reads as it did. -/
def bdiskReadsSpec : ChangeSpec := { name := "bdiskReads", fn := fun _ => fun
  | [d1, d2] => { results := [.lit (.bool true)], args := [d1, d2] }
  | _ => none }
def bdiskReadsRow : OpenClaim := { program := "ytikhhipgamllgaa", sum := "c612953f422aff42ebc4d7e4bb1af553df6bd4617ff494715ecb807256dd0580", func := "flotsam/flotsamlaw05.BdiskReads", spec := "bdiskReads", unfollowed := true, recurses := true, plainKeys := false, apart := false }
def BdiskReadsSaid : Prop := bdiskReadsRow.holds Try.pinned (OpenSpec.ofChange bdiskReadsSpec)

/-- ITS FALSE NEIGHBOUR: 'it returns false'. Refute it at one input. -/
def bdiskReadsWrong : ChangeSpec := { name := "bdiskReads", fn := fun _ => fun
  | [d1, d2] => { results := [.lit (.bool false)], args := [d1, d2] }
  | _ => none }
def BdiskReadsWrongFalsely : Prop := bdiskReadsRow.holds Try.pinned (OpenSpec.ofChange bdiskReadsWrong)

/-- 'flotsamlaw05.BdiskPlays': WHATEVER THE INPUT: true; the input reads as it did. -/
def bdiskPlaysSpec : ChangeSpec := { name := "bdiskPlays", fn := fun _ => fun
  | [d1, d2] => { results := [.lit (.bool true)], args := [d1, d2] }
  | _ => none }
def bdiskPlaysRow : OpenClaim := { program := "ytikhhipgamllgaa", sum := "c612953f422aff42ebc4d7e4bb1af553df6bd4617ff494715ecb807256dd0580", func := "flotsam/flotsamlaw05.BdiskPlays", spec := "bdiskPlays", unfollowed := true, recurses := true, plainKeys := false, apart := false }
def BdiskPlaysSaid : Prop := bdiskPlaysRow.holds Try.pinned (OpenSpec.ofChange bdiskPlaysSpec)

/-- ITS FALSE NEIGHBOUR: 'it returns false'. Refute it at one input. -/
def bdiskPlaysWrong : ChangeSpec := { name := "bdiskPlays", fn := fun _ => fun
  | [d1, d2] => { results := [.lit (.bool false)], args := [d1, d2] }
  | _ => none }
def BdiskPlaysWrongFalsely : Prop := bdiskPlaysRow.holds Try.pinned (OpenSpec.ofChange bdiskPlaysWrong)

/-- 'flotsamlaw06.CrashAts': WHATEVER THE INPUT: true; the input reads as it did. -/
def crashAtsSpec : ChangeSpec := { name := "crashAts", fn := fun _ => fun
  | [d1, d2, d3] => { results := [.lit (.bool true)], args := [d1, d2, d3] }
  | _ => none }
def crashAtsRow : OpenClaim := { program := "ytikhhipgamllgaa", sum := "c612953f422aff42ebc4d7e4bb1af553df6bd4617ff494715ecb807256dd0580", func := "flotsam/flotsamlaw06.CrashAts", spec := "crashAts", unfollowed := true, recurses := true, plainKeys := false, apart := false }
def CrashAtsSaid : Prop := crashAtsRow.holds Try.pinned (OpenSpec.ofChange crashAtsSpec)

/-- ITS FALSE NEIGHBOUR: 'it returns false'. Refute it at one input. -/
def crashAtsWrong : ChangeSpec := { name := "crashAts", fn := fun _ => fun
  | [d1, d2, d3] => { results := [.lit (.bool false)], args := [d1, d2, d3] }
  | _ => none }
def CrashAtsWrongFalsely : Prop := crashAtsRow.holds Try.pinned (OpenSpec.ofChange crashAtsWrong)

/-- 'flotsamlaw06.CrashKeeps': WHATEVER THE INPUT: true; the input reads as it did. -/
def crashKeepsSpec : ChangeSpec := { name := "crashKeeps", fn := fun _ => fun
  | [d1, d2, d3] => { results := [.lit (.bool true)], args := [d1, d2, d3] }
  | _ => none }
def crashKeepsRow : OpenClaim := { program := "ytikhhipgamllgaa", sum := "c612953f422aff42ebc4d7e4bb1af553df6bd4617ff494715ecb807256dd0580", func := "flotsam/flotsamlaw06.CrashKeeps", spec := "crashKeeps", unfollowed := true, recurses := true, plainKeys := false, apart := false }
def CrashKeepsSaid : Prop := crashKeepsRow.holds Try.pinned (OpenSpec.ofChange crashKeepsSpec)

/-- ITS FALSE NEIGHBOUR: 'it returns false'. Refute it at one input. -/
def crashKeepsWrong : ChangeSpec := { name := "crashKeeps", fn := fun _ => fun
  | [d1, d2, d3] => { results := [.lit (.bool false)], args := [d1, d2, d3] }
  | _ => none }
def CrashKeepsWrongFalsely : Prop := crashKeepsRow.holds Try.pinned (OpenSpec.ofChange crashKeepsWrong)

/- THE SECOND FORM. 'bulk': how many values and letters a reading holds, each counted each time it is reached (what is shared counts as often as it is met; a slice's spare places count too). A statement '..UptoSaid' is the law's where the arguments, and the package variables that the reading takes, are together of bulk at most 1048576: NARROWER than '..Said'. Prove '..Said' where nothing that the law and all that it calls make is longer than what came in: it says more and counts as full. Else prove '..UptoSaid'. A law counts once. -/
mutual
def uptoBulk {H : Type} : DataW H → Nat
  | .lit (.string bytes) => bytes.length + 1
  | .lit _ => 1
  | .nil => 1
  | .ptr d => uptoBulk d + 1
  | .slice elems spare => uptoBulkAll elems + uptoBulkAll spare + 1
  | .agg parts => uptoBulkAll parts + 1
  | .iface _ d => uptoBulk d + 1
  | .map entries => uptoBulkEntries entries + 1
  | .held _ => 1
def uptoBulkAll {H : Type} : List (DataW H) → Nat
  | [] => 0
  | d :: r => uptoBulk d + uptoBulkAll r
def uptoBulkEntries {H : Type} : List (Lit × DataW H) → Nat
  | [] => 0
  | x :: r => uptoBulkEntry x + uptoBulkEntries r
def uptoBulkEntry {H : Type} : Lit × DataW H → Nat
  | (.string bytes, d) => bytes.length + uptoBulk d + 1
  | (_, d) => uptoBulk d + 1
 end
def uptoSmall : (H : Type) → List (DataW H) → Bool := fun _ ds => decide (uptoBulkAll ds ≤ 1048576)
def OpenSpec.upto (s : _root_.Go.ChangeSpec) : _root_.Go.OpenSpec := { _root_.Go.OpenSpec.ofChange s with cond := some uptoSmall }

/-- 'flotsamlaw02.ChoiceFates', WHERE WHAT IT READS IS OF BULK AT MOST 1048576: true; the input reads as it did. -/
def choiceFatesUptoRow : OpenClaim := { program := "ytikhhipgamllgaa", sum := "c612953f422aff42ebc4d7e4bb1af553df6bd4617ff494715ecb807256dd0580", func := "flotsam/flotsamlaw02.ChoiceFates", spec := "choiceFates", inPlace := ["internal/abi.NoEscape"], plainKeys := false, apart := false, narrowed := true }
def ChoiceFatesUptoSaid : Prop := choiceFatesUptoRow.holds Try.pinned (OpenSpec.upto choiceFatesSpec)

/-- 'flotsamlaw02.ChoiceOrder', WHERE WHAT IT READS IS OF BULK AT MOST 1048576: true; the input reads as it did. -/
def choiceOrderUptoRow : OpenClaim := { program := "ytikhhipgamllgaa", sum := "c612953f422aff42ebc4d7e4bb1af553df6bd4617ff494715ecb807256dd0580", func := "flotsam/flotsamlaw02.ChoiceOrder", spec := "choiceOrder", inPlace := ["internal/abi.NoEscape"], plainKeys := false, apart := false, narrowed := true }
def ChoiceOrderUptoSaid : Prop := choiceOrderUptoRow.holds Try.pinned (OpenSpec.upto choiceOrderSpec)

/-- 'flotsamlaw02.ChoiceAllowed', WHERE WHAT IT READS IS OF BULK AT MOST 1048576: true; the input reads as it did. -/
def choiceAllowedUptoRow : OpenClaim := { program := "ytikhhipgamllgaa", sum := "c612953f422aff42ebc4d7e4bb1af553df6bd4617ff494715ecb807256dd0580", func := "flotsam/flotsamlaw02.ChoiceAllowed", spec := "choiceAllowed", inPlace := ["internal/abi.NoEscape", "internal/bytealg.IndexByteString"], plainKeys := false, apart := false, narrowed := true }
def ChoiceAllowedUptoSaid : Prop := choiceAllowedUptoRow.holds Try.pinned (OpenSpec.upto choiceAllowedSpec)

/-- 'flotsamlaw02.ChoiceBack', WHERE WHAT IT READS IS OF BULK AT MOST 1048576: true; the input reads as it did. -/
def choiceBackUptoRow : OpenClaim := { program := "ytikhhipgamllgaa", sum := "c612953f422aff42ebc4d7e4bb1af553df6bd4617ff494715ecb807256dd0580", func := "flotsam/flotsamlaw02.ChoiceBack", spec := "choiceBack", inPlace := ["internal/abi.NoEscape", "internal/bytealg.IndexByteString"], plainKeys := false, apart := false, narrowed := true }
def ChoiceBackUptoSaid : Prop := choiceBackUptoRow.holds Try.pinned (OpenSpec.upto choiceBackSpec)

/-- 'flotsamlaw06.CrashChoices', WHERE WHAT IT READS IS OF BULK AT MOST 1048576: true; the input reads as it did. -/
def crashChoicesUptoRow : OpenClaim := { program := "ytikhhipgamllgaa", sum := "c612953f422aff42ebc4d7e4bb1af553df6bd4617ff494715ecb807256dd0580", func := "flotsam/flotsamlaw06.CrashChoices", spec := "crashChoices", unfollowed := true, recurses := true, plainKeys := false, apart := false, narrowed := true }
def CrashChoicesUptoSaid : Prop := crashChoicesUptoRow.holds Try.pinned (OpenSpec.upto crashChoicesSpec)

/-- 'flotsamlaw05.BdiskReads', WHERE WHAT IT READS IS OF BULK AT MOST 1048576: true; the input reads as it did. -/
def bdiskReadsUptoRow : OpenClaim := { program := "ytikhhipgamllgaa", sum := "c612953f422aff42ebc4d7e4bb1af553df6bd4617ff494715ecb807256dd0580", func := "flotsam/flotsamlaw05.BdiskReads", spec := "bdiskReads", unfollowed := true, recurses := true, plainKeys := false, apart := false, narrowed := true }
def BdiskReadsUptoSaid : Prop := bdiskReadsUptoRow.holds Try.pinned (OpenSpec.upto bdiskReadsSpec)

/-- 'flotsamlaw05.BdiskPlays', WHERE WHAT IT READS IS OF BULK AT MOST 1048576: true; the input reads as it did. -/
def bdiskPlaysUptoRow : OpenClaim := { program := "ytikhhipgamllgaa", sum := "c612953f422aff42ebc4d7e4bb1af553df6bd4617ff494715ecb807256dd0580", func := "flotsam/flotsamlaw05.BdiskPlays", spec := "bdiskPlays", unfollowed := true, recurses := true, plainKeys := false, apart := false, narrowed := true }
def BdiskPlaysUptoSaid : Prop := bdiskPlaysUptoRow.holds Try.pinned (OpenSpec.upto bdiskPlaysSpec)

/-- 'flotsamlaw06.CrashAts', WHERE WHAT IT READS IS OF BULK AT MOST 1048576: true; the input reads as it did. -/
def crashAtsUptoRow : OpenClaim := { program := "ytikhhipgamllgaa", sum := "c612953f422aff42ebc4d7e4bb1af553df6bd4617ff494715ecb807256dd0580", func := "flotsam/flotsamlaw06.CrashAts", spec := "crashAts", unfollowed := true, recurses := true, plainKeys := false, apart := false, narrowed := true }
def CrashAtsUptoSaid : Prop := crashAtsUptoRow.holds Try.pinned (OpenSpec.upto crashAtsSpec)

/-- 'flotsamlaw06.CrashKeeps', WHERE WHAT IT READS IS OF BULK AT MOST 1048576: true; the input reads as it did. -/
def crashKeepsUptoRow : OpenClaim := { program := "ytikhhipgamllgaa", sum := "c612953f422aff42ebc4d7e4bb1af553df6bd4617ff494715ecb807256dd0580", func := "flotsam/flotsamlaw06.CrashKeeps", spec := "crashKeeps", unfollowed := true, recurses := true, plainKeys := false, apart := false, narrowed := true }
def CrashKeepsUptoSaid : Prop := crashKeepsUptoRow.holds Try.pinned (OpenSpec.upto crashKeepsSpec)

end Rows
end Go.Proofs.Ytikhhipgamllgaa
