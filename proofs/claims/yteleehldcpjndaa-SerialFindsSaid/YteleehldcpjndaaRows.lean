/-
  No cell of these rows narrows 'for every input' (looked for: loops, veiled, ifaces, maps, wideKeys, modest, calm, conditions, laid).
  DERIVED. THE GIVEN ROWS OF THIS SEAT. 13 by the template 'for every input the law returns true; each argument reads behind the call as it read before'; 0 by the template 'total and deterministic' (their statements: YteleehldcpjndaaTotals.lean).
  GIVEN WITH THE SEED: the statements are not yours to turn. If you find one false, say at which input.
  Laid BY PROGRAM, IN A SANDBOX (cutbox-rows.mjs): the forced cells as the released guide's own fill.sh prints them over the translation 475b7a2264376bfe… (all of the seat's roots in one cut). By AI agents, Wed Nov 11 2026. No macro, syntax, notation, axiom, sorry.
-/
import Derived.Test.YteleehldcpjndaaChecked
import GoSem.Claim
import GoSem.ClaimJoined
import GoSem.ClaimMapViews
import Derived.JoinedTies
import Derived.KernelRfl
namespace Go.Proofs.Yteleehldcpjndaa
/- THE CELL 'sum', in the pinned program and in every row, IS THE sha256 OF THE DUMP (.gsa) THAT YteleehldcpjndaaProg.lean LOADS. Nothing in Lean hashes anything: it is a label: what it is worth is what the hold of that sum in a sandbox is worth. -/
noncomputable def Try.pinned : Pinned := { name := "yteleehldcpjndaa", sum := "475b7a2264376bfe93e05bfcf57bdd89f6c038fc5abc300a2bda9c37b6d3f249", checked := Try.checked }
namespace Rows
def none {H : Type} : Left H := { results := [], args := [] }

/-- 'guillochelaw02.SerialTexts': WHATEVER THE INPUT: true; the input reads as it did. -/
def serialTextsSpec : ChangeSpec := { name := "serialTexts", fn := fun _ => fun
  | [d1, d2] => { results := [.lit (.bool true)], args := [d1, d2] }
  | _ => none }
def serialTextsRow : OpenClaim := { program := "yteleehldcpjndaa", sum := "475b7a2264376bfe93e05bfcf57bdd89f6c038fc5abc300a2bda9c37b6d3f249", func := "guilloche/guillochelaw02.SerialTexts", spec := "serialTexts", inPlace := ["internal/bytealg.IndexByteString", "internal/bytealg.IndexString", "internal/abi.NoEscape", "internal/bytealg.MakeNoZero"], unfollowed := true, recurses := true, named := ["internal/bytealg.MaxLen"], plainKeys := false, apart := false }
def SerialTextsSaid : Prop := serialTextsRow.holds Try.pinned (OpenSpec.ofChange serialTextsSpec)

/-- ITS FALSE NEIGHBOUR: 'it returns false'. Refute it at one input. -/
def serialTextsWrong : ChangeSpec := { name := "serialTexts", fn := fun _ => fun
  | [d1, d2] => { results := [.lit (.bool false)], args := [d1, d2] }
  | _ => none }
def SerialTextsWrongFalsely : Prop := serialTextsRow.holds Try.pinned (OpenSpec.ofChange serialTextsWrong)

/-- 'guillochelaw02.SerialInverse': WHATEVER THE INPUT: true; the input reads as it did. -/
def serialInverseSpec : ChangeSpec := { name := "serialInverse", fn := fun _ => fun
  | [d1, d2, d3] => { results := [.lit (.bool true)], args := [d1, d2, d3] }
  | _ => none }
def serialInverseRow : OpenClaim := { program := "yteleehldcpjndaa", sum := "475b7a2264376bfe93e05bfcf57bdd89f6c038fc5abc300a2bda9c37b6d3f249", func := "guilloche/guillochelaw02.SerialInverse", spec := "serialInverse", inPlace := ["internal/bytealg.IndexByteString", "internal/bytealg.IndexString", "internal/abi.NoEscape", "internal/bytealg.MakeNoZero"], unfollowed := true, recurses := true, named := ["internal/bytealg.MaxLen"], plainKeys := false, apart := false }
def SerialInverseSaid : Prop := serialInverseRow.holds Try.pinned (OpenSpec.ofChange serialInverseSpec)

/-- ITS FALSE NEIGHBOUR: 'it returns false'. Refute it at one input. -/
def serialInverseWrong : ChangeSpec := { name := "serialInverse", fn := fun _ => fun
  | [d1, d2, d3] => { results := [.lit (.bool false)], args := [d1, d2, d3] }
  | _ => none }
def SerialInverseWrongFalsely : Prop := serialInverseRow.holds Try.pinned (OpenSpec.ofChange serialInverseWrong)

/-- 'guillochelaw02.SerialNumbers': WHATEVER THE INPUT: true; the input reads as it did. -/
def serialNumbersSpec : ChangeSpec := { name := "serialNumbers", fn := fun _ => fun
  | [d1, d2] => { results := [.lit (.bool true)], args := [d1, d2] }
  | _ => none }
def serialNumbersRow : OpenClaim := { program := "yteleehldcpjndaa", sum := "475b7a2264376bfe93e05bfcf57bdd89f6c038fc5abc300a2bda9c37b6d3f249", func := "guilloche/guillochelaw02.SerialNumbers", spec := "serialNumbers", inPlace := ["internal/bytealg.IndexByteString", "internal/bytealg.IndexString", "internal/abi.NoEscape", "internal/bytealg.MakeNoZero"], unfollowed := true, recurses := true, named := ["internal/bytealg.MaxLen"], plainKeys := false, apart := false }
def SerialNumbersSaid : Prop := serialNumbersRow.holds Try.pinned (OpenSpec.ofChange serialNumbersSpec)

/-- ITS FALSE NEIGHBOUR: 'it returns false'. Refute it at one input. -/
def serialNumbersWrong : ChangeSpec := { name := "serialNumbers", fn := fun _ => fun
  | [d1, d2] => { results := [.lit (.bool false)], args := [d1, d2] }
  | _ => none }
def SerialNumbersWrongFalsely : Prop := serialNumbersRow.holds Try.pinned (OpenSpec.ofChange serialNumbersWrong)

/-- 'guillochelaw02.SerialPlain': WHATEVER THE INPUT: true; the input reads as it did. -/
def serialPlainSpec : ChangeSpec := { name := "serialPlain", fn := fun _ => fun
  | [d1, d2, d3, d4] => { results := [.lit (.bool true)], args := [d1, d2, d3, d4] }
  | _ => none }
def serialPlainRow : OpenClaim := { program := "yteleehldcpjndaa", sum := "475b7a2264376bfe93e05bfcf57bdd89f6c038fc5abc300a2bda9c37b6d3f249", func := "guilloche/guillochelaw02.SerialPlain", spec := "serialPlain", inPlace := ["internal/bytealg.IndexByteString", "internal/bytealg.IndexString", "internal/abi.NoEscape", "internal/bytealg.MakeNoZero"], unfollowed := true, recurses := true, named := ["internal/bytealg.MaxLen"], plainKeys := false, apart := false }
def SerialPlainSaid : Prop := serialPlainRow.holds Try.pinned (OpenSpec.ofChange serialPlainSpec)

/-- ITS FALSE NEIGHBOUR: 'it returns false'. Refute it at one input. -/
def serialPlainWrong : ChangeSpec := { name := "serialPlain", fn := fun _ => fun
  | [d1, d2, d3, d4] => { results := [.lit (.bool false)], args := [d1, d2, d3, d4] }
  | _ => none }
def SerialPlainWrongFalsely : Prop := serialPlainRow.holds Try.pinned (OpenSpec.ofChange serialPlainWrong)

/-- 'guillochelaw02.SerialBans': WHATEVER THE INPUT: true; the input reads as it did. -/
def serialBansSpec : ChangeSpec := { name := "serialBans", fn := fun _ => fun
  | [d1, d2, d3] => { results := [.lit (.bool true)], args := [d1, d2, d3] }
  | _ => none }
def serialBansRow : OpenClaim := { program := "yteleehldcpjndaa", sum := "475b7a2264376bfe93e05bfcf57bdd89f6c038fc5abc300a2bda9c37b6d3f249", func := "guilloche/guillochelaw02.SerialBans", spec := "serialBans", inPlace := ["internal/bytealg.IndexByteString", "internal/bytealg.IndexString", "internal/abi.NoEscape", "internal/bytealg.MakeNoZero"], unfollowed := true, recurses := true, named := ["internal/bytealg.MaxLen"], plainKeys := false, apart := false }
def SerialBansSaid : Prop := serialBansRow.holds Try.pinned (OpenSpec.ofChange serialBansSpec)

/-- ITS FALSE NEIGHBOUR: 'it returns false'. Refute it at one input. -/
def serialBansWrong : ChangeSpec := { name := "serialBans", fn := fun _ => fun
  | [d1, d2, d3] => { results := [.lit (.bool false)], args := [d1, d2, d3] }
  | _ => none }
def SerialBansWrongFalsely : Prop := serialBansRow.holds Try.pinned (OpenSpec.ofChange serialBansWrong)

/-- 'guillochelaw02.SerialParts': WHATEVER THE INPUT: true; the input reads as it did. -/
def serialPartsSpec : ChangeSpec := { name := "serialParts", fn := fun _ => fun
  | [d1, d2, d3, d4] => { results := [.lit (.bool true)], args := [d1, d2, d3, d4] }
  | _ => none }
def serialPartsRow : OpenClaim := { program := "yteleehldcpjndaa", sum := "475b7a2264376bfe93e05bfcf57bdd89f6c038fc5abc300a2bda9c37b6d3f249", func := "guilloche/guillochelaw02.SerialParts", spec := "serialParts", inPlace := ["internal/bytealg.IndexByteString", "internal/bytealg.IndexString", "internal/abi.NoEscape", "internal/bytealg.MakeNoZero"], unfollowed := true, recurses := true, named := ["internal/bytealg.MaxLen"], plainKeys := false, apart := false }
def SerialPartsSaid : Prop := serialPartsRow.holds Try.pinned (OpenSpec.ofChange serialPartsSpec)

/-- ITS FALSE NEIGHBOUR: 'it returns false'. Refute it at one input. -/
def serialPartsWrong : ChangeSpec := { name := "serialParts", fn := fun _ => fun
  | [d1, d2, d3, d4] => { results := [.lit (.bool false)], args := [d1, d2, d3, d4] }
  | _ => none }
def SerialPartsWrongFalsely : Prop := serialPartsRow.holds Try.pinned (OpenSpec.ofChange serialPartsWrong)

/-- 'guillochelaw02.SerialOpen': WHATEVER THE INPUT: true; the input reads as it did. -/
def serialOpenSpec : ChangeSpec := { name := "serialOpen", fn := fun _ => fun
  | [d1, d2] => { results := [.lit (.bool true)], args := [d1, d2] }
  | _ => none }
def serialOpenRow : OpenClaim := { program := "yteleehldcpjndaa", sum := "475b7a2264376bfe93e05bfcf57bdd89f6c038fc5abc300a2bda9c37b6d3f249", func := "guilloche/guillochelaw02.SerialOpen", spec := "serialOpen", inPlace := ["internal/bytealg.IndexByteString", "internal/bytealg.IndexString", "internal/abi.NoEscape", "internal/bytealg.MakeNoZero"], unfollowed := true, recurses := true, named := ["internal/bytealg.MaxLen"], plainKeys := false, apart := false }
def SerialOpenSaid : Prop := serialOpenRow.holds Try.pinned (OpenSpec.ofChange serialOpenSpec)

/-- ITS FALSE NEIGHBOUR: 'it returns false'. Refute it at one input. -/
def serialOpenWrong : ChangeSpec := { name := "serialOpen", fn := fun _ => fun
  | [d1, d2] => { results := [.lit (.bool false)], args := [d1, d2] }
  | _ => none }
def SerialOpenWrongFalsely : Prop := serialOpenRow.holds Try.pinned (OpenSpec.ofChange serialOpenWrong)

/-- 'guillochelaw02.SerialMasks': WHATEVER THE INPUT: true; the input reads as it did. -/
def serialMasksSpec : ChangeSpec := { name := "serialMasks", fn := fun _ => fun
  | [d1, d2, d3, d4] => { results := [.lit (.bool true)], args := [d1, d2, d3, d4] }
  | _ => none }
def serialMasksRow : OpenClaim := { program := "yteleehldcpjndaa", sum := "475b7a2264376bfe93e05bfcf57bdd89f6c038fc5abc300a2bda9c37b6d3f249", func := "guilloche/guillochelaw02.SerialMasks", spec := "serialMasks", inPlace := ["internal/bytealg.IndexByteString", "internal/bytealg.IndexString", "internal/abi.NoEscape", "internal/bytealg.MakeNoZero"], unfollowed := true, recurses := true, named := ["internal/bytealg.MaxLen"], plainKeys := false, apart := false }
def SerialMasksSaid : Prop := serialMasksRow.holds Try.pinned (OpenSpec.ofChange serialMasksSpec)

/-- ITS FALSE NEIGHBOUR: 'it returns false'. Refute it at one input. -/
def serialMasksWrong : ChangeSpec := { name := "serialMasks", fn := fun _ => fun
  | [d1, d2, d3, d4] => { results := [.lit (.bool false)], args := [d1, d2, d3, d4] }
  | _ => none }
def SerialMasksWrongFalsely : Prop := serialMasksRow.holds Try.pinned (OpenSpec.ofChange serialMasksWrong)

/-- 'guillochelaw02.SerialRanks': WHATEVER THE INPUT: true; the input reads as it did. -/
def serialRanksSpec : ChangeSpec := { name := "serialRanks", fn := fun _ => fun
  | [d1, d2, d3] => { results := [.lit (.bool true)], args := [d1, d2, d3] }
  | _ => none }
def serialRanksRow : OpenClaim := { program := "yteleehldcpjndaa", sum := "475b7a2264376bfe93e05bfcf57bdd89f6c038fc5abc300a2bda9c37b6d3f249", func := "guilloche/guillochelaw02.SerialRanks", spec := "serialRanks", inPlace := ["internal/bytealg.IndexByteString", "internal/bytealg.IndexString", "internal/abi.NoEscape", "internal/bytealg.MakeNoZero"], unfollowed := true, recurses := true, named := ["internal/bytealg.MaxLen"], plainKeys := false, apart := false }
def SerialRanksSaid : Prop := serialRanksRow.holds Try.pinned (OpenSpec.ofChange serialRanksSpec)

/-- ITS FALSE NEIGHBOUR: 'it returns false'. Refute it at one input. -/
def serialRanksWrong : ChangeSpec := { name := "serialRanks", fn := fun _ => fun
  | [d1, d2, d3] => { results := [.lit (.bool false)], args := [d1, d2, d3] }
  | _ => none }
def SerialRanksWrongFalsely : Prop := serialRanksRow.holds Try.pinned (OpenSpec.ofChange serialRanksWrong)

/-- 'guillochelaw02.SerialNears': WHATEVER THE INPUT: true; the input reads as it did. -/
def serialNearsSpec : ChangeSpec := { name := "serialNears", fn := fun _ => fun
  | [d1, d2] => { results := [.lit (.bool true)], args := [d1, d2] }
  | _ => none }
def serialNearsRow : OpenClaim := { program := "yteleehldcpjndaa", sum := "475b7a2264376bfe93e05bfcf57bdd89f6c038fc5abc300a2bda9c37b6d3f249", func := "guilloche/guillochelaw02.SerialNears", spec := "serialNears", inPlace := ["internal/bytealg.IndexByteString", "internal/bytealg.IndexString", "internal/abi.NoEscape", "internal/bytealg.MakeNoZero"], unfollowed := true, recurses := true, named := ["internal/bytealg.MaxLen"], plainKeys := false, apart := false }
def SerialNearsSaid : Prop := serialNearsRow.holds Try.pinned (OpenSpec.ofChange serialNearsSpec)

/-- ITS FALSE NEIGHBOUR: 'it returns false'. Refute it at one input. -/
def serialNearsWrong : ChangeSpec := { name := "serialNears", fn := fun _ => fun
  | [d1, d2] => { results := [.lit (.bool false)], args := [d1, d2] }
  | _ => none }
def SerialNearsWrongFalsely : Prop := serialNearsRow.holds Try.pinned (OpenSpec.ofChange serialNearsWrong)

/-- 'guillochelaw02.SerialFinds': WHATEVER THE INPUT: true; the input reads as it did. -/
def serialFindsSpec : ChangeSpec := { name := "serialFinds", fn := fun _ => fun
  | [d1, d2] => { results := [.lit (.bool true)], args := [d1, d2] }
  | _ => none }
def serialFindsRow : OpenClaim := { program := "yteleehldcpjndaa", sum := "475b7a2264376bfe93e05bfcf57bdd89f6c038fc5abc300a2bda9c37b6d3f249", func := "guilloche/guillochelaw02.SerialFinds", spec := "serialFinds", inPlace := ["internal/bytealg.IndexByteString", "internal/bytealg.IndexString", "internal/abi.NoEscape", "internal/bytealg.MakeNoZero"], unfollowed := true, recurses := true, named := ["internal/bytealg.MaxLen"], plainKeys := false, apart := false }
def SerialFindsSaid : Prop := serialFindsRow.holds Try.pinned (OpenSpec.ofChange serialFindsSpec)

/-- ITS FALSE NEIGHBOUR: 'it returns false'. Refute it at one input. -/
def serialFindsWrong : ChangeSpec := { name := "serialFinds", fn := fun _ => fun
  | [d1, d2] => { results := [.lit (.bool false)], args := [d1, d2] }
  | _ => none }
def SerialFindsWrongFalsely : Prop := serialFindsRow.holds Try.pinned (OpenSpec.ofChange serialFindsWrong)

/-- 'guillochelaw02.SerialApart': WHATEVER THE INPUT: true; the input reads as it did. -/
def serialApartSpec : ChangeSpec := { name := "serialApart", fn := fun _ => fun
  | [d1, d2, d3, d4] => { results := [.lit (.bool true)], args := [d1, d2, d3, d4] }
  | _ => none }
def serialApartRow : OpenClaim := { program := "yteleehldcpjndaa", sum := "475b7a2264376bfe93e05bfcf57bdd89f6c038fc5abc300a2bda9c37b6d3f249", func := "guilloche/guillochelaw02.SerialApart", spec := "serialApart", inPlace := ["internal/bytealg.IndexByteString", "internal/bytealg.IndexString", "internal/abi.NoEscape", "internal/bytealg.MakeNoZero"], unfollowed := true, recurses := true, named := ["internal/bytealg.MaxLen"], plainKeys := false, apart := false }
def SerialApartSaid : Prop := serialApartRow.holds Try.pinned (OpenSpec.ofChange serialApartSpec)

/-- ITS FALSE NEIGHBOUR: 'it returns false'. Refute it at one input. -/
def serialApartWrong : ChangeSpec := { name := "serialApart", fn := fun _ => fun
  | [d1, d2, d3, d4] => { results := [.lit (.bool false)], args := [d1, d2, d3, d4] }
  | _ => none }
def SerialApartWrongFalsely : Prop := serialApartRow.holds Try.pinned (OpenSpec.ofChange serialApartWrong)

/-- 'guillochelaw02.SerialChecks': WHATEVER THE INPUT: true; the input reads as it did. -/
def serialChecksSpec : ChangeSpec := { name := "serialChecks", fn := fun _ => fun
  | [d1, d2, d3] => { results := [.lit (.bool true)], args := [d1, d2, d3] }
  | _ => none }
def serialChecksRow : OpenClaim := { program := "yteleehldcpjndaa", sum := "475b7a2264376bfe93e05bfcf57bdd89f6c038fc5abc300a2bda9c37b6d3f249", func := "guilloche/guillochelaw02.SerialChecks", spec := "serialChecks", inPlace := ["internal/bytealg.IndexByteString", "internal/bytealg.IndexString", "internal/abi.NoEscape", "internal/bytealg.MakeNoZero"], unfollowed := true, recurses := true, named := ["internal/bytealg.MaxLen"], plainKeys := false, apart := false }
def SerialChecksSaid : Prop := serialChecksRow.holds Try.pinned (OpenSpec.ofChange serialChecksSpec)

/-- ITS FALSE NEIGHBOUR: 'it returns false'. Refute it at one input. -/
def serialChecksWrong : ChangeSpec := { name := "serialChecks", fn := fun _ => fun
  | [d1, d2, d3] => { results := [.lit (.bool false)], args := [d1, d2, d3] }
  | _ => none }
def SerialChecksWrongFalsely : Prop := serialChecksRow.holds Try.pinned (OpenSpec.ofChange serialChecksWrong)

/- THE SECOND FORM. 'bulk': how many values and letters a reading holds, each counted each time it is reached (what is shared counts as often as it is met; a slice's spare places count too). A statement '..UptoSaid' is the law's where the arguments, and the package variables that the reading takes, are together of bulk at most 1048576: NARROWER than '..Said'. Prove '..Said' where nothing that the law and all that it calls make is longer than what came in: it says more and counts as full. Else prove '..UptoSaid'. A law counts once. -/
mutual
def uptoBulk {H : Type} : DataW H → Nat
  | .lit (.string bytes) => bytes.length + 1
  | .lit _ => 1
  | .nil => 1
  | .ptr d => uptoBulk d + 1
  | .slice elems spare => uptoBulkAll elems + uptoBulkAll spare + 1
  | .agg parts => uptoBulkAll parts + 1
  | .iface _ d => uptoBulk d + 1
  | .map entries => uptoBulkEntries entries + 1
  | .held _ => 1
def uptoBulkAll {H : Type} : List (DataW H) → Nat
  | [] => 0
  | d :: r => uptoBulk d + uptoBulkAll r
def uptoBulkEntries {H : Type} : List (Lit × DataW H) → Nat
  | [] => 0
  | x :: r => uptoBulkEntry x + uptoBulkEntries r
def uptoBulkEntry {H : Type} : Lit × DataW H → Nat
  | (.string bytes, d) => bytes.length + uptoBulk d + 1
  | (_, d) => uptoBulk d + 1
 end
def uptoSmall : (H : Type) → List (DataW H) → Bool := fun _ ds => decide (uptoBulkAll ds ≤ 1048576)
def OpenSpec.upto (s : _root_.Go.ChangeSpec) : _root_.Go.OpenSpec := { _root_.Go.OpenSpec.ofChange s with cond := some uptoSmall }

/-- 'guillochelaw02.SerialTexts', WHERE WHAT IT READS IS OF BULK AT MOST 1048576: true; the input reads as it did. -/
def serialTextsUptoRow : OpenClaim := { program := "yteleehldcpjndaa", sum := "475b7a2264376bfe93e05bfcf57bdd89f6c038fc5abc300a2bda9c37b6d3f249", func := "guilloche/guillochelaw02.SerialTexts", spec := "serialTexts", inPlace := ["internal/bytealg.IndexByteString", "internal/bytealg.IndexString", "internal/abi.NoEscape", "internal/bytealg.MakeNoZero"], unfollowed := true, recurses := true, named := ["internal/bytealg.MaxLen"], plainKeys := false, apart := false, narrowed := true }
def SerialTextsUptoSaid : Prop := serialTextsUptoRow.holds Try.pinned (OpenSpec.upto serialTextsSpec)

/-- 'guillochelaw02.SerialInverse', WHERE WHAT IT READS IS OF BULK AT MOST 1048576: true; the input reads as it did. -/
def serialInverseUptoRow : OpenClaim := { program := "yteleehldcpjndaa", sum := "475b7a2264376bfe93e05bfcf57bdd89f6c038fc5abc300a2bda9c37b6d3f249", func := "guilloche/guillochelaw02.SerialInverse", spec := "serialInverse", inPlace := ["internal/bytealg.IndexByteString", "internal/bytealg.IndexString", "internal/abi.NoEscape", "internal/bytealg.MakeNoZero"], unfollowed := true, recurses := true, named := ["internal/bytealg.MaxLen"], plainKeys := false, apart := false, narrowed := true }
def SerialInverseUptoSaid : Prop := serialInverseUptoRow.holds Try.pinned (OpenSpec.upto serialInverseSpec)

/-- 'guillochelaw02.SerialNumbers', WHERE WHAT IT READS IS OF BULK AT MOST 1048576: true; the input reads as it did. -/
def serialNumbersUptoRow : OpenClaim := { program := "yteleehldcpjndaa", sum := "475b7a2264376bfe93e05bfcf57bdd89f6c038fc5abc300a2bda9c37b6d3f249", func := "guilloche/guillochelaw02.SerialNumbers", spec := "serialNumbers", inPlace := ["internal/bytealg.IndexByteString", "internal/bytealg.IndexString", "internal/abi.NoEscape", "internal/bytealg.MakeNoZero"], unfollowed := true, recurses := true, named := ["internal/bytealg.MaxLen"], plainKeys := false, apart := false, narrowed := true }
def SerialNumbersUptoSaid : Prop := serialNumbersUptoRow.holds Try.pinned (OpenSpec.upto serialNumbersSpec)

/-- 'guillochelaw02.SerialPlain', WHERE WHAT IT READS IS OF BULK AT MOST 1048576: true; the input reads as it did. -/
def serialPlainUptoRow : OpenClaim := { program := "yteleehldcpjndaa", sum := "475b7a2264376bfe93e05bfcf57bdd89f6c038fc5abc300a2bda9c37b6d3f249", func := "guilloche/guillochelaw02.SerialPlain", spec := "serialPlain", inPlace := ["internal/bytealg.IndexByteString", "internal/bytealg.IndexString", "internal/abi.NoEscape", "internal/bytealg.MakeNoZero"], unfollowed := true, recurses := true, named := ["internal/bytealg.MaxLen"], plainKeys := false, apart := false, narrowed := true }
def SerialPlainUptoSaid : Prop := serialPlainUptoRow.holds Try.pinned (OpenSpec.upto serialPlainSpec)

/-- 'guillochelaw02.SerialBans', WHERE WHAT IT READS IS OF BULK AT MOST 1048576: true; the input reads as it did. -/
def serialBansUptoRow : OpenClaim := { program := "yteleehldcpjndaa", sum := "475b7a2264376bfe93e05bfcf57bdd89f6c038fc5abc300a2bda9c37b6d3f249", func := "guilloche/guillochelaw02.SerialBans", spec := "serialBans", inPlace := ["internal/bytealg.IndexByteString", "internal/bytealg.IndexString", "internal/abi.NoEscape", "internal/bytealg.MakeNoZero"], unfollowed := true, recurses := true, named := ["internal/bytealg.MaxLen"], plainKeys := false, apart := false, narrowed := true }
def SerialBansUptoSaid : Prop := serialBansUptoRow.holds Try.pinned (OpenSpec.upto serialBansSpec)

/-- 'guillochelaw02.SerialParts', WHERE WHAT IT READS IS OF BULK AT MOST 1048576: true; the input reads as it did. -/
def serialPartsUptoRow : OpenClaim := { program := "yteleehldcpjndaa", sum := "475b7a2264376bfe93e05bfcf57bdd89f6c038fc5abc300a2bda9c37b6d3f249", func := "guilloche/guillochelaw02.SerialParts", spec := "serialParts", inPlace := ["internal/bytealg.IndexByteString", "internal/bytealg.IndexString", "internal/abi.NoEscape", "internal/bytealg.MakeNoZero"], unfollowed := true, recurses := true, named := ["internal/bytealg.MaxLen"], plainKeys := false, apart := false, narrowed := true }
def SerialPartsUptoSaid : Prop := serialPartsUptoRow.holds Try.pinned (OpenSpec.upto serialPartsSpec)

/-- 'guillochelaw02.SerialOpen', WHERE WHAT IT READS IS OF BULK AT MOST 1048576: true; the input reads as it did. -/
def serialOpenUptoRow : OpenClaim := { program := "yteleehldcpjndaa", sum := "475b7a2264376bfe93e05bfcf57bdd89f6c038fc5abc300a2bda9c37b6d3f249", func := "guilloche/guillochelaw02.SerialOpen", spec := "serialOpen", inPlace := ["internal/bytealg.IndexByteString", "internal/bytealg.IndexString", "internal/abi.NoEscape", "internal/bytealg.MakeNoZero"], unfollowed := true, recurses := true, named := ["internal/bytealg.MaxLen"], plainKeys := false, apart := false, narrowed := true }
def SerialOpenUptoSaid : Prop := serialOpenUptoRow.holds Try.pinned (OpenSpec.upto serialOpenSpec)

/-- 'guillochelaw02.SerialMasks', WHERE WHAT IT READS IS OF BULK AT MOST 1048576: true; the input reads as it did. -/
def serialMasksUptoRow : OpenClaim := { program := "yteleehldcpjndaa", sum := "475b7a2264376bfe93e05bfcf57bdd89f6c038fc5abc300a2bda9c37b6d3f249", func := "guilloche/guillochelaw02.SerialMasks", spec := "serialMasks", inPlace := ["internal/bytealg.IndexByteString", "internal/bytealg.IndexString", "internal/abi.NoEscape", "internal/bytealg.MakeNoZero"], unfollowed := true, recurses := true, named := ["internal/bytealg.MaxLen"], plainKeys := false, apart := false, narrowed := true }
def SerialMasksUptoSaid : Prop := serialMasksUptoRow.holds Try.pinned (OpenSpec.upto serialMasksSpec)

/-- 'guillochelaw02.SerialRanks', WHERE WHAT IT READS IS OF BULK AT MOST 1048576: true; the input reads as it did. -/
def serialRanksUptoRow : OpenClaim := { program := "yteleehldcpjndaa", sum := "475b7a2264376bfe93e05bfcf57bdd89f6c038fc5abc300a2bda9c37b6d3f249", func := "guilloche/guillochelaw02.SerialRanks", spec := "serialRanks", inPlace := ["internal/bytealg.IndexByteString", "internal/bytealg.IndexString", "internal/abi.NoEscape", "internal/bytealg.MakeNoZero"], unfollowed := true, recurses := true, named := ["internal/bytealg.MaxLen"], plainKeys := false, apart := false, narrowed := true }
def SerialRanksUptoSaid : Prop := serialRanksUptoRow.holds Try.pinned (OpenSpec.upto serialRanksSpec)

/-- 'guillochelaw02.SerialNears', WHERE WHAT IT READS IS OF BULK AT MOST 1048576: true; the input reads as it did. -/
def serialNearsUptoRow : OpenClaim := { program := "yteleehldcpjndaa", sum := "475b7a2264376bfe93e05bfcf57bdd89f6c038fc5abc300a2bda9c37b6d3f249", func := "guilloche/guillochelaw02.SerialNears", spec := "serialNears", inPlace := ["internal/bytealg.IndexByteString", "internal/bytealg.IndexString", "internal/abi.NoEscape", "internal/bytealg.MakeNoZero"], unfollowed := true, recurses := true, named := ["internal/bytealg.MaxLen"], plainKeys := false, apart := false, narrowed := true }
def SerialNearsUptoSaid : Prop := serialNearsUptoRow.holds Try.pinned (OpenSpec.upto serialNearsSpec)

/-- 'guillochelaw02.SerialFinds', WHERE WHAT IT READS IS OF BULK AT MOST 1048576: true; the input reads as it did. -/
def serialFindsUptoRow : OpenClaim := { program := "yteleehldcpjndaa", sum := "475b7a2264376bfe93e05bfcf57bdd89f6c038fc5abc300a2bda9c37b6d3f249", func := "guilloche/guillochelaw02.SerialFinds", spec := "serialFinds", inPlace := ["internal/bytealg.IndexByteString", "internal/bytealg.IndexString", "internal/abi.NoEscape", "internal/bytealg.MakeNoZero"], unfollowed := true, recurses := true, named := ["internal/bytealg.MaxLen"], plainKeys := false, apart := false, narrowed := true }
def SerialFindsUptoSaid : Prop := serialFindsUptoRow.holds Try.pinned (OpenSpec.upto serialFindsSpec)

/-- 'guillochelaw02.SerialApart', WHERE WHAT IT READS IS OF BULK AT MOST 1048576: true; the input reads as it did. -/
def serialApartUptoRow : OpenClaim := { program := "yteleehldcpjndaa", sum := "475b7a2264376bfe93e05bfcf57bdd89f6c038fc5abc300a2bda9c37b6d3f249", func := "guilloche/guillochelaw02.SerialApart", spec := "serialApart", inPlace := ["internal/bytealg.IndexByteString", "internal/bytealg.IndexString", "internal/abi.NoEscape", "internal/bytealg.MakeNoZero"], unfollowed := true, recurses := true, named := ["internal/bytealg.MaxLen"], plainKeys := false, apart := false, narrowed := true }
def SerialApartUptoSaid : Prop := serialApartUptoRow.holds Try.pinned (OpenSpec.upto serialApartSpec)

/-- 'guillochelaw02.SerialChecks', WHERE WHAT IT READS IS OF BULK AT MOST 1048576: true; the input reads as it did. -/
def serialChecksUptoRow : OpenClaim := { program := "yteleehldcpjndaa", sum := "475b7a2264376bfe93e05bfcf57bdd89f6c038fc5abc300a2bda9c37b6d3f249", func := "guilloche/guillochelaw02.SerialChecks", spec := "serialChecks", inPlace := ["internal/bytealg.IndexByteString", "internal/bytealg.IndexString", "internal/abi.NoEscape", "internal/bytealg.MakeNoZero"], unfollowed := true, recurses := true, named := ["internal/bytealg.MaxLen"], plainKeys := false, apart := false, narrowed := true }
def SerialChecksUptoSaid : Prop := serialChecksUptoRow.holds Try.pinned (OpenSpec.upto serialChecksSpec)

end Rows
end Go.Proofs.Yteleehldcpjndaa
