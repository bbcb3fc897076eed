/-
  No cell of these rows narrows 'for every input' (looked for: loops, veiled, ifaces, maps, wideKeys, modest, calm, conditions, laid).
  DERIVED. THE GIVEN ROWS OF THIS SEAT. 10 by the template 'for every input the law returns true; each argument reads behind the call as it read before'; 0 by the template 'total and deterministic' (their statements: YtbfiflinonnmcaaTotals.lean).
  GIVEN WITH THE SEED: the statements are not yours to turn. If you find one false, say at which input.
  Laid BY PROGRAM, IN A SANDBOX (cutbox-rows.mjs): the forced cells as the released guide's own fill.sh prints them over the translation 232aa20c7fbe32be… (all of the seat's roots in one cut). By AI agents, Wed Nov 11 2026. No macro, syntax, notation, axiom, sorry.
-/
import Derived.Test.YtbfiflinonnmcaaChecked
import GoSem.Claim
import GoSem.ClaimJoined
import GoSem.ClaimMapViews
import Derived.JoinedTies
import Derived.KernelRfl
namespace Go.Proofs.Ytbfiflinonnmcaa
/- THE CELL 'sum', in the pinned program and in every row, IS THE sha256 OF THE DUMP (.gsa) THAT YtbfiflinonnmcaaProg.lean LOADS. Nothing in Lean hashes anything: it is a label: what it is worth is what the hold of that sum in a sandbox is worth. -/
noncomputable def Try.pinned : Pinned := { name := "ytbfiflinonnmcaa", sum := "232aa20c7fbe32be2f4676cbd69237b0ba6980e6b65f05445c6da9ba946def8b", checked := Try.checked }
namespace Rows
def none {H : Type} : Left H := { results := [], args := [] }

/-- 'concordlaw03.DateNumbers': WHATEVER THE INPUT: true; the input reads as it did. -/
def dateNumbersSpec : ChangeSpec := { name := "dateNumbers", fn := fun _ => fun
  | [d1, d2, d3] => { results := [.lit (.bool true)], args := [d1, d2, d3] }
  | _ => none }
def dateNumbersRow : OpenClaim := { program := "ytbfiflinonnmcaa", sum := "232aa20c7fbe32be2f4676cbd69237b0ba6980e6b65f05445c6da9ba946def8b", func := "concord/concordlaw03.DateNumbers", spec := "dateNumbers", inPlace := ["internal/bytealg.IndexByteString", "internal/bytealg.IndexString", "internal/abi.NoEscape"], unfollowed := true, recurses := true, named := ["internal/bytealg.MaxLen"], apart := false }
def DateNumbersSaid : Prop := dateNumbersRow.holds Try.pinned (OpenSpec.ofChange dateNumbersSpec)

/-- ITS FALSE NEIGHBOUR: 'it returns false'. Refute it at one input. -/
def dateNumbersWrong : ChangeSpec := { name := "dateNumbers", fn := fun _ => fun
  | [d1, d2, d3] => { results := [.lit (.bool false)], args := [d1, d2, d3] }
  | _ => none }
def DateNumbersWrongFalsely : Prop := dateNumbersRow.holds Try.pinned (OpenSpec.ofChange dateNumbersWrong)

/-- 'concordlaw03.DateInverse': WHATEVER THE INPUT: true; the input reads as it did. -/
def dateInverseSpec : ChangeSpec := { name := "dateInverse", fn := fun _ => fun
  | [d] => { results := [.lit (.bool true)], args := [d] }
  | _ => none }
def dateInverseRow : OpenClaim := { program := "ytbfiflinonnmcaa", sum := "232aa20c7fbe32be2f4676cbd69237b0ba6980e6b65f05445c6da9ba946def8b", func := "concord/concordlaw03.DateInverse", spec := "dateInverse", inPlace := ["internal/bytealg.IndexByteString", "internal/bytealg.IndexString", "internal/abi.NoEscape"], unfollowed := true, recurses := true, named := ["internal/bytealg.MaxLen"], apart := false }
def DateInverseSaid : Prop := dateInverseRow.holds Try.pinned (OpenSpec.ofChange dateInverseSpec)

/-- ITS FALSE NEIGHBOUR: 'it returns false'. Refute it at one input. -/
def dateInverseWrong : ChangeSpec := { name := "dateInverse", fn := fun _ => fun
  | [d] => { results := [.lit (.bool false)], args := [d] }
  | _ => none }
def DateInverseWrongFalsely : Prop := dateInverseRow.holds Try.pinned (OpenSpec.ofChange dateInverseWrong)

/-- 'concordlaw03.DateYears': WHATEVER THE INPUT: true; the input reads as it did. -/
def dateYearsSpec : ChangeSpec := { name := "dateYears", fn := fun _ => fun
  | [d1, d2, d3] => { results := [.lit (.bool true)], args := [d1, d2, d3] }
  | _ => none }
def dateYearsRow : OpenClaim := { program := "ytbfiflinonnmcaa", sum := "232aa20c7fbe32be2f4676cbd69237b0ba6980e6b65f05445c6da9ba946def8b", func := "concord/concordlaw03.DateYears", spec := "dateYears", inPlace := ["internal/bytealg.IndexByteString", "internal/bytealg.IndexString", "internal/abi.NoEscape"], unfollowed := true, recurses := true, named := ["internal/bytealg.MaxLen"], apart := false }
def DateYearsSaid : Prop := dateYearsRow.holds Try.pinned (OpenSpec.ofChange dateYearsSpec)

/-- ITS FALSE NEIGHBOUR: 'it returns false'. Refute it at one input. -/
def dateYearsWrong : ChangeSpec := { name := "dateYears", fn := fun _ => fun
  | [d1, d2, d3] => { results := [.lit (.bool false)], args := [d1, d2, d3] }
  | _ => none }
def DateYearsWrongFalsely : Prop := dateYearsRow.holds Try.pinned (OpenSpec.ofChange dateYearsWrong)

/-- 'concordlaw03.DateMonths': WHATEVER THE INPUT: true; the input reads as it did. -/
def dateMonthsSpec : ChangeSpec := { name := "dateMonths", fn := fun _ => fun
  | [d1, d2] => { results := [.lit (.bool true)], args := [d1, d2] }
  | _ => none }
def dateMonthsRow : OpenClaim := { program := "ytbfiflinonnmcaa", sum := "232aa20c7fbe32be2f4676cbd69237b0ba6980e6b65f05445c6da9ba946def8b", func := "concord/concordlaw03.DateMonths", spec := "dateMonths", inPlace := ["internal/bytealg.IndexByteString", "internal/bytealg.IndexString", "internal/abi.NoEscape"], unfollowed := true, recurses := true, named := ["internal/bytealg.MaxLen"], apart := false }
def DateMonthsSaid : Prop := dateMonthsRow.holds Try.pinned (OpenSpec.ofChange dateMonthsSpec)

/-- ITS FALSE NEIGHBOUR: 'it returns false'. Refute it at one input. -/
def dateMonthsWrong : ChangeSpec := { name := "dateMonths", fn := fun _ => fun
  | [d1, d2] => { results := [.lit (.bool false)], args := [d1, d2] }
  | _ => none }
def DateMonthsWrongFalsely : Prop := dateMonthsRow.holds Try.pinned (OpenSpec.ofChange dateMonthsWrong)

/-- 'concordlaw03.DateBack': WHATEVER THE INPUT: true; the input reads as it did. -/
def dateBackSpec : ChangeSpec := { name := "dateBack", fn := fun _ => fun
  | [d1, d2, d3] => { results := [.lit (.bool true)], args := [d1, d2, d3] }
  | _ => none }
def dateBackRow : OpenClaim := { program := "ytbfiflinonnmcaa", sum := "232aa20c7fbe32be2f4676cbd69237b0ba6980e6b65f05445c6da9ba946def8b", func := "concord/concordlaw03.DateBack", spec := "dateBack", inPlace := ["internal/bytealg.IndexByteString", "internal/bytealg.IndexString", "internal/abi.NoEscape"], unfollowed := true, recurses := true, named := ["internal/bytealg.MaxLen"], apart := false }
def DateBackSaid : Prop := dateBackRow.holds Try.pinned (OpenSpec.ofChange dateBackSpec)

/-- ITS FALSE NEIGHBOUR: 'it returns false'. Refute it at one input. -/
def dateBackWrong : ChangeSpec := { name := "dateBack", fn := fun _ => fun
  | [d1, d2, d3] => { results := [.lit (.bool false)], args := [d1, d2, d3] }
  | _ => none }
def DateBackWrongFalsely : Prop := dateBackRow.holds Try.pinned (OpenSpec.ofChange dateBackWrong)

/-- 'concordlaw03.DateFormats': WHATEVER THE INPUT: true; the input reads as it did. -/
def dateFormatsSpec : ChangeSpec := { name := "dateFormats", fn := fun _ => fun
  | [d1, d2, d3] => { results := [.lit (.bool true)], args := [d1, d2, d3] }
  | _ => none }
def dateFormatsRow : OpenClaim := { program := "ytbfiflinonnmcaa", sum := "232aa20c7fbe32be2f4676cbd69237b0ba6980e6b65f05445c6da9ba946def8b", func := "concord/concordlaw03.DateFormats", spec := "dateFormats", inPlace := ["internal/bytealg.IndexByteString", "internal/bytealg.IndexString", "internal/abi.NoEscape"], unfollowed := true, recurses := true, named := ["internal/bytealg.MaxLen"], apart := false }
def DateFormatsSaid : Prop := dateFormatsRow.holds Try.pinned (OpenSpec.ofChange dateFormatsSpec)

/-- ITS FALSE NEIGHBOUR: 'it returns false'. Refute it at one input. -/
def dateFormatsWrong : ChangeSpec := { name := "dateFormats", fn := fun _ => fun
  | [d1, d2, d3] => { results := [.lit (.bool false)], args := [d1, d2, d3] }
  | _ => none }
def DateFormatsWrongFalsely : Prop := dateFormatsRow.holds Try.pinned (OpenSpec.ofChange dateFormatsWrong)

/-- 'concordlaw03.DateReads': WHATEVER THE INPUT: true; the input reads as it did. -/
def dateReadsSpec : ChangeSpec := { name := "dateReads", fn := fun _ => fun
  | [d1, d2, d3] => { results := [.lit (.bool true)], args := [d1, d2, d3] }
  | _ => none }
def dateReadsRow : OpenClaim := { program := "ytbfiflinonnmcaa", sum := "232aa20c7fbe32be2f4676cbd69237b0ba6980e6b65f05445c6da9ba946def8b", func := "concord/concordlaw03.DateReads", spec := "dateReads", inPlace := ["internal/bytealg.IndexByteString", "internal/bytealg.IndexString", "internal/abi.NoEscape"], unfollowed := true, recurses := true, named := ["internal/bytealg.MaxLen"], apart := false }
def DateReadsSaid : Prop := dateReadsRow.holds Try.pinned (OpenSpec.ofChange dateReadsSpec)

/-- ITS FALSE NEIGHBOUR: 'it returns false'. Refute it at one input. -/
def dateReadsWrong : ChangeSpec := { name := "dateReads", fn := fun _ => fun
  | [d1, d2, d3] => { results := [.lit (.bool false)], args := [d1, d2, d3] }
  | _ => none }
def DateReadsWrongFalsely : Prop := dateReadsRow.holds Try.pinned (OpenSpec.ofChange dateReadsWrong)

/-- 'concordlaw03.DateUndo': WHATEVER THE INPUT: true; the input reads as it did. -/
def dateUndoSpec : ChangeSpec := { name := "dateUndo", fn := fun _ => fun
  | [d1, d2, d3] => { results := [.lit (.bool true)], args := [d1, d2, d3] }
  | _ => none }
def dateUndoRow : OpenClaim := { program := "ytbfiflinonnmcaa", sum := "232aa20c7fbe32be2f4676cbd69237b0ba6980e6b65f05445c6da9ba946def8b", func := "concord/concordlaw03.DateUndo", spec := "dateUndo", inPlace := ["internal/bytealg.IndexByteString", "internal/bytealg.IndexString", "internal/abi.NoEscape"], unfollowed := true, recurses := true, named := ["internal/bytealg.MaxLen"], apart := false }
def DateUndoSaid : Prop := dateUndoRow.holds Try.pinned (OpenSpec.ofChange dateUndoSpec)

/-- ITS FALSE NEIGHBOUR: 'it returns false'. Refute it at one input. -/
def dateUndoWrong : ChangeSpec := { name := "dateUndo", fn := fun _ => fun
  | [d1, d2, d3] => { results := [.lit (.bool false)], args := [d1, d2, d3] }
  | _ => none }
def DateUndoWrongFalsely : Prop := dateUndoRow.holds Try.pinned (OpenSpec.ofChange dateUndoWrong)

/-- 'concordlaw03.DateTexts': WHATEVER THE INPUT: true; the input reads as it did. -/
def dateTextsSpec : ChangeSpec := { name := "dateTexts", fn := fun _ => fun
  | [d1, d2, d3] => { results := [.lit (.bool true)], args := [d1, d2, d3] }
  | _ => none }
def dateTextsRow : OpenClaim := { program := "ytbfiflinonnmcaa", sum := "232aa20c7fbe32be2f4676cbd69237b0ba6980e6b65f05445c6da9ba946def8b", func := "concord/concordlaw03.DateTexts", spec := "dateTexts", inPlace := ["internal/bytealg.IndexByteString", "internal/bytealg.IndexString", "internal/abi.NoEscape"], unfollowed := true, recurses := true, named := ["internal/bytealg.MaxLen"], apart := false }
def DateTextsSaid : Prop := dateTextsRow.holds Try.pinned (OpenSpec.ofChange dateTextsSpec)

/-- ITS FALSE NEIGHBOUR: 'it returns false'. Refute it at one input. -/
def dateTextsWrong : ChangeSpec := { name := "dateTexts", fn := fun _ => fun
  | [d1, d2, d3] => { results := [.lit (.bool false)], args := [d1, d2, d3] }
  | _ => none }
def DateTextsWrongFalsely : Prop := dateTextsRow.holds Try.pinned (OpenSpec.ofChange dateTextsWrong)

/-- 'concordlaw03.DateAdds': WHATEVER THE INPUT: true; the input reads as it did. -/
def dateAddsSpec : ChangeSpec := { name := "dateAdds", fn := fun _ => fun
  | [d1, d2] => { results := [.lit (.bool true)], args := [d1, d2] }
  | _ => none }
def dateAddsRow : OpenClaim := { program := "ytbfiflinonnmcaa", sum := "232aa20c7fbe32be2f4676cbd69237b0ba6980e6b65f05445c6da9ba946def8b", func := "concord/concordlaw03.DateAdds", spec := "dateAdds", inPlace := ["internal/bytealg.IndexByteString", "internal/bytealg.IndexString", "internal/abi.NoEscape"], unfollowed := true, recurses := true, named := ["internal/bytealg.MaxLen"], apart := false }
def DateAddsSaid : Prop := dateAddsRow.holds Try.pinned (OpenSpec.ofChange dateAddsSpec)

/-- ITS FALSE NEIGHBOUR: 'it returns false'. Refute it at one input. -/
def dateAddsWrong : ChangeSpec := { name := "dateAdds", fn := fun _ => fun
  | [d1, d2] => { results := [.lit (.bool false)], args := [d1, d2] }
  | _ => none }
def DateAddsWrongFalsely : Prop := dateAddsRow.holds Try.pinned (OpenSpec.ofChange dateAddsWrong)

/- THE SECOND FORM. 'bulk': how many values and letters a reading holds, each counted each time it is reached (what is shared counts as often as it is met; a slice's spare places count too). A statement '..UptoSaid' is the law's where the arguments, and the package variables that the reading takes, are together of bulk at most 1048576: NARROWER than '..Said'. Prove '..Said' where nothing that the law and all that it calls make is longer than what came in: it says more and counts as full. Else prove '..UptoSaid'. A law counts once. -/
mutual
def uptoBulk {H : Type} : DataW H → Nat
  | .lit (.string bytes) => bytes.length + 1
  | .lit _ => 1
  | .nil => 1
  | .ptr d => uptoBulk d + 1
  | .slice elems spare => uptoBulkAll elems + uptoBulkAll spare + 1
  | .agg parts => uptoBulkAll parts + 1
  | .iface _ d => uptoBulk d + 1
  | .map entries => uptoBulkEntries entries + 1
  | .held _ => 1
def uptoBulkAll {H : Type} : List (DataW H) → Nat
  | [] => 0
  | d :: r => uptoBulk d + uptoBulkAll r
def uptoBulkEntries {H : Type} : List (Lit × DataW H) → Nat
  | [] => 0
  | x :: r => uptoBulkEntry x + uptoBulkEntries r
def uptoBulkEntry {H : Type} : Lit × DataW H → Nat
  | (.string bytes, d) => bytes.length + uptoBulk d + 1
  | (_, d) => uptoBulk d + 1
 end
def uptoSmall : (H : Type) → List (DataW H) → Bool := fun _ ds => decide (uptoBulkAll ds ≤ 1048576)
def OpenSpec.upto (s : _root_.Go.ChangeSpec) : _root_.Go.OpenSpec := { _root_.Go.OpenSpec.ofChange s with cond := some uptoSmall }

/-- 'concordlaw03.DateNumbers', WHERE WHAT IT READS IS OF BULK AT MOST 1048576: true; the input reads as it did. -/
def dateNumbersUptoRow : OpenClaim := { program := "ytbfiflinonnmcaa", sum := "232aa20c7fbe32be2f4676cbd69237b0ba6980e6b65f05445c6da9ba946def8b", func := "concord/concordlaw03.DateNumbers", spec := "dateNumbers", inPlace := ["internal/bytealg.IndexByteString", "internal/bytealg.IndexString", "internal/abi.NoEscape"], unfollowed := true, recurses := true, named := ["internal/bytealg.MaxLen"], apart := false, narrowed := true }
def DateNumbersUptoSaid : Prop := dateNumbersUptoRow.holds Try.pinned (OpenSpec.upto dateNumbersSpec)

/-- 'concordlaw03.DateInverse', WHERE WHAT IT READS IS OF BULK AT MOST 1048576: true; the input reads as it did. -/
def dateInverseUptoRow : OpenClaim := { program := "ytbfiflinonnmcaa", sum := "232aa20c7fbe32be2f4676cbd69237b0ba6980e6b65f05445c6da9ba946def8b", func := "concord/concordlaw03.DateInverse", spec := "dateInverse", inPlace := ["internal/bytealg.IndexByteString", "internal/bytealg.IndexString", "internal/abi.NoEscape"], unfollowed := true, recurses := true, named := ["internal/bytealg.MaxLen"], apart := false, narrowed := true }
def DateInverseUptoSaid : Prop := dateInverseUptoRow.holds Try.pinned (OpenSpec.upto dateInverseSpec)

/-- 'concordlaw03.DateYears', WHERE WHAT IT READS IS OF BULK AT MOST 1048576: true; the input reads as it did. -/
def dateYearsUptoRow : OpenClaim := { program := "ytbfiflinonnmcaa", sum := "232aa20c7fbe32be2f4676cbd69237b0ba6980e6b65f05445c6da9ba946def8b", func := "concord/concordlaw03.DateYears", spec := "dateYears", inPlace := ["internal/bytealg.IndexByteString", "internal/bytealg.IndexString", "internal/abi.NoEscape"], unfollowed := true, recurses := true, named := ["internal/bytealg.MaxLen"], apart := false, narrowed := true }
def DateYearsUptoSaid : Prop := dateYearsUptoRow.holds Try.pinned (OpenSpec.upto dateYearsSpec)

/-- 'concordlaw03.DateMonths', WHERE WHAT IT READS IS OF BULK AT MOST 1048576: true; the input reads as it did. -/
def dateMonthsUptoRow : OpenClaim := { program := "ytbfiflinonnmcaa", sum := "232aa20c7fbe32be2f4676cbd69237b0ba6980e6b65f05445c6da9ba946def8b", func := "concord/concordlaw03.DateMonths", spec := "dateMonths", inPlace := ["internal/bytealg.IndexByteString", "internal/bytealg.IndexString", "internal/abi.NoEscape"], unfollowed := true, recurses := true, named := ["internal/bytealg.MaxLen"], apart := false, narrowed := true }
def DateMonthsUptoSaid : Prop := dateMonthsUptoRow.holds Try.pinned (OpenSpec.upto dateMonthsSpec)

/-- 'concordlaw03.DateBack', WHERE WHAT IT READS IS OF BULK AT MOST 1048576: true; the input reads as it did. -/
def dateBackUptoRow : OpenClaim := { program := "ytbfiflinonnmcaa", sum := "232aa20c7fbe32be2f4676cbd69237b0ba6980e6b65f05445c6da9ba946def8b", func := "concord/concordlaw03.DateBack", spec := "dateBack", inPlace := ["internal/bytealg.IndexByteString", "internal/bytealg.IndexString", "internal/abi.NoEscape"], unfollowed := true, recurses := true, named := ["internal/bytealg.MaxLen"], apart := false, narrowed := true }
def DateBackUptoSaid : Prop := dateBackUptoRow.holds Try.pinned (OpenSpec.upto dateBackSpec)

/-- 'concordlaw03.DateFormats', WHERE WHAT IT READS IS OF BULK AT MOST 1048576: true; the input reads as it did. -/
def dateFormatsUptoRow : OpenClaim := { program := "ytbfiflinonnmcaa", sum := "232aa20c7fbe32be2f4676cbd69237b0ba6980e6b65f05445c6da9ba946def8b", func := "concord/concordlaw03.DateFormats", spec := "dateFormats", inPlace := ["internal/bytealg.IndexByteString", "internal/bytealg.IndexString", "internal/abi.NoEscape"], unfollowed := true, recurses := true, named := ["internal/bytealg.MaxLen"], apart := false, narrowed := true }
def DateFormatsUptoSaid : Prop := dateFormatsUptoRow.holds Try.pinned (OpenSpec.upto dateFormatsSpec)

/-- 'concordlaw03.DateReads', WHERE WHAT IT READS IS OF BULK AT MOST 1048576: true; the input reads as it did. -/
def dateReadsUptoRow : OpenClaim := { program := "ytbfiflinonnmcaa", sum := "232aa20c7fbe32be2f4676cbd69237b0ba6980e6b65f05445c6da9ba946def8b", func := "concord/concordlaw03.DateReads", spec := "dateReads", inPlace := ["internal/bytealg.IndexByteString", "internal/bytealg.IndexString", "internal/abi.NoEscape"], unfollowed := true, recurses := true, named := ["internal/bytealg.MaxLen"], apart := false, narrowed := true }
def DateReadsUptoSaid : Prop := dateReadsUptoRow.holds Try.pinned (OpenSpec.upto dateReadsSpec)

/-- 'concordlaw03.DateUndo', WHERE WHAT IT READS IS OF BULK AT MOST 1048576: true; the input reads as it did. -/
def dateUndoUptoRow : OpenClaim := { program := "ytbfiflinonnmcaa", sum := "232aa20c7fbe32be2f4676cbd69237b0ba6980e6b65f05445c6da9ba946def8b", func := "concord/concordlaw03.DateUndo", spec := "dateUndo", inPlace := ["internal/bytealg.IndexByteString", "internal/bytealg.IndexString", "internal/abi.NoEscape"], unfollowed := true, recurses := true, named := ["internal/bytealg.MaxLen"], apart := false, narrowed := true }
def DateUndoUptoSaid : Prop := dateUndoUptoRow.holds Try.pinned (OpenSpec.upto dateUndoSpec)

/-- 'concordlaw03.DateTexts', WHERE WHAT IT READS IS OF BULK AT MOST 1048576: true; the input reads as it did. -/
def dateTextsUptoRow : OpenClaim := { program := "ytbfiflinonnmcaa", sum := "232aa20c7fbe32be2f4676cbd69237b0ba6980e6b65f05445c6da9ba946def8b", func := "concord/concordlaw03.DateTexts", spec := "dateTexts", inPlace := ["internal/bytealg.IndexByteString", "internal/bytealg.IndexString", "internal/abi.NoEscape"], unfollowed := true, recurses := true, named := ["internal/bytealg.MaxLen"], apart := false, narrowed := true }
def DateTextsUptoSaid : Prop := dateTextsUptoRow.holds Try.pinned (OpenSpec.upto dateTextsSpec)

/-- 'concordlaw03.DateAdds', WHERE WHAT IT READS IS OF BULK AT MOST 1048576: true; the input reads as it did. -/
def dateAddsUptoRow : OpenClaim := { program := "ytbfiflinonnmcaa", sum := "232aa20c7fbe32be2f4676cbd69237b0ba6980e6b65f05445c6da9ba946def8b", func := "concord/concordlaw03.DateAdds", spec := "dateAdds", inPlace := ["internal/bytealg.IndexByteString", "internal/bytealg.IndexString", "internal/abi.NoEscape"], unfollowed := true, recurses := true, named := ["internal/bytealg.MaxLen"], apart := false, narrowed := true }
def DateAddsUptoSaid : Prop := dateAddsUptoRow.holds Try.pinned (OpenSpec.upto dateAddsSpec)

end Rows
end Go.Proofs.Ytbfiflinonnmcaa
