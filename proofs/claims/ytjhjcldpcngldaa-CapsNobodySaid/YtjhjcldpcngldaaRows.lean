/-
  NARROWER THAN 'FOR EVERY INPUT', by the rows' own cells (each row's printed sentence says how): TreeTells: loops · TreeParts: loops · TreeSames: loops · OutlineTells: loops · SerialTags: loops.
  DERIVED. THE GIVEN ROWS OF THIS SEAT. 14 by the template 'for every input the law returns true; each argument reads behind the call as it read before'; 0 by the template 'total and deterministic' (their statements: YtjhjcldpcngldaaTotals.lean).
  GIVEN WITH THE SEED: the statements are not yours to turn. If you find one false, say at which input.
  Laid BY PROGRAM, IN A SANDBOX (cutbox-rows.mjs): the forced cells as the released guide's own fill.sh prints them over the translation 6bfe116ed3a92eda… (all of the seat's roots in one cut). By AI agents, Wed Nov 11 2026. No macro, syntax, notation, axiom, sorry.
-/
import Derived.Test.YtjhjcldpcngldaaChecked
import GoSem.Claim
import GoSem.ClaimJoined
import GoSem.ClaimMapViews
import Derived.JoinedTies
import Derived.KernelRfl
namespace Go.Proofs.Ytjhjcldpcngldaa
/- THE CELL 'sum', in the pinned program and in every row, IS THE sha256 OF THE DUMP (.gsa) THAT YtjhjcldpcngldaaProg.lean LOADS. Nothing in Lean hashes anything: it is a label: what it is worth is what the hold of that sum in a sandbox is worth. -/
noncomputable def Try.pinned : Pinned := { name := "ytjhjcldpcngldaa", sum := "6bfe116ed3a92edaf27c466f51ee8184ae31421e32df6fe2f56ff74ff888852a", checked := Try.checked }
namespace Rows
def none {H : Type} : Left H := { results := [], args := [] }

/-- 'glazierlaw26.CapsRuns': WHATEVER THE INPUT: true; the input reads as it did. -/
def capsRunsSpec : ChangeSpec := { name := "capsRuns", fn := fun _ => fun
  | [d1, d2, d3, d4] => { results := [.lit (.bool true)], args := [d1, d2, d3, d4] }
  | _ => none }
def capsRunsRow : OpenClaim := { program := "ytjhjcldpcngldaa", sum := "6bfe116ed3a92edaf27c466f51ee8184ae31421e32df6fe2f56ff74ff888852a", func := "glazier/glazierlaw26.CapsRuns", spec := "capsRuns", unfollowed := true, recurses := true, apart := false }
def CapsRunsSaid : Prop := capsRunsRow.holds Try.pinned (OpenSpec.ofChange capsRunsSpec)

/-- ITS FALSE NEIGHBOUR: 'it returns false'. Refute it at one input. -/
def capsRunsWrong : ChangeSpec := { name := "capsRuns", fn := fun _ => fun
  | [d1, d2, d3, d4] => { results := [.lit (.bool false)], args := [d1, d2, d3, d4] }
  | _ => none }
def CapsRunsWrongFalsely : Prop := capsRunsRow.holds Try.pinned (OpenSpec.ofChange capsRunsWrong)

/-- 'glazierlaw42.UndoNobody': WHATEVER THE INPUT: true; the input reads as it did. -/
def undoNobodySpec : ChangeSpec := { name := "undoNobody", fn := fun _ => fun
  | [d] => { results := [.lit (.bool true)], args := [d] }
  | _ => none }
def undoNobodyRow : OpenClaim := { program := "ytjhjcldpcngldaa", sum := "6bfe116ed3a92edaf27c466f51ee8184ae31421e32df6fe2f56ff74ff888852a", func := "glazier/glazierlaw42.UndoNobody", spec := "undoNobody", inPlace := ["maps.clone"], apart := false }
def UndoNobodySaid : Prop := undoNobodyRow.holds Try.pinned (OpenSpec.ofChange undoNobodySpec)

/-- ITS FALSE NEIGHBOUR: 'it returns false'. Refute it at one input. -/
def undoNobodyWrong : ChangeSpec := { name := "undoNobody", fn := fun _ => fun
  | [d] => { results := [.lit (.bool false)], args := [d] }
  | _ => none }
def UndoNobodyWrongFalsely : Prop := undoNobodyRow.holds Try.pinned (OpenSpec.ofChange undoNobodyWrong)

/-- 'glazierlaw36.OutlineQuotes': WHATEVER THE INPUT: true; the input reads as it did. -/
def outlineQuotesSpec : ChangeSpec := { name := "outlineQuotes", fn := fun _ => fun
  | [d1, d2] => { results := [.lit (.bool true)], args := [d1, d2] }
  | _ => none }
def outlineQuotesRow : OpenClaim := { program := "ytjhjcldpcngldaa", sum := "6bfe116ed3a92edaf27c466f51ee8184ae31421e32df6fe2f56ff74ff888852a", func := "glazier/glazierlaw36.OutlineQuotes", spec := "outlineQuotes", unfollowed := true, recurses := true, apart := false }
def OutlineQuotesSaid : Prop := outlineQuotesRow.holds Try.pinned (OpenSpec.ofChange outlineQuotesSpec)

/-- ITS FALSE NEIGHBOUR: 'it returns false'. Refute it at one input. -/
def outlineQuotesWrong : ChangeSpec := { name := "outlineQuotes", fn := fun _ => fun
  | [d1, d2] => { results := [.lit (.bool false)], args := [d1, d2] }
  | _ => none }
def OutlineQuotesWrongFalsely : Prop := outlineQuotesRow.holds Try.pinned (OpenSpec.ofChange outlineQuotesWrong)

/-- 'glazierlaw11.TreeTells': WHATEVER THE INPUT: true; the input reads as it did. -/
def treeTellsSpec : ChangeSpec := { name := "treeTells", fn := fun _ => fun
  | [d] => { results := [.lit (.bool true)], args := [d] }
  | _ => none }
def treeTellsRow : OpenClaim := { program := "ytjhjcldpcngldaa", sum := "6bfe116ed3a92edaf27c466f51ee8184ae31421e32df6fe2f56ff74ff888852a", func := "glazier/glazierlaw11.TreeTells", spec := "treeTells", unfollowed := true, recurses := true, loops := true, apart := false }
def TreeTellsSaid : Prop := treeTellsRow.holds Try.pinned (OpenSpec.ofChange treeTellsSpec)

/-- ITS FALSE NEIGHBOUR: 'it returns false'. Refute it at one input. -/
def treeTellsWrong : ChangeSpec := { name := "treeTells", fn := fun _ => fun
  | [d] => { results := [.lit (.bool false)], args := [d] }
  | _ => none }
def TreeTellsWrongFalsely : Prop := treeTellsRow.holds Try.pinned (OpenSpec.ofChange treeTellsWrong)

/-- 'glazierlaw11.TreeParts': WHATEVER THE INPUT: true; the input reads as it did. -/
def treePartsSpec : ChangeSpec := { name := "treeParts", fn := fun _ => fun
  | [d1, d2] => { results := [.lit (.bool true)], args := [d1, d2] }
  | _ => none }
def treePartsRow : OpenClaim := { program := "ytjhjcldpcngldaa", sum := "6bfe116ed3a92edaf27c466f51ee8184ae31421e32df6fe2f56ff74ff888852a", func := "glazier/glazierlaw11.TreeParts", spec := "treeParts", unfollowed := true, recurses := true, loops := true, apart := false }
def TreePartsSaid : Prop := treePartsRow.holds Try.pinned (OpenSpec.ofChange treePartsSpec)

/-- ITS FALSE NEIGHBOUR: 'it returns false'. Refute it at one input. -/
def treePartsWrong : ChangeSpec := { name := "treeParts", fn := fun _ => fun
  | [d1, d2] => { results := [.lit (.bool false)], args := [d1, d2] }
  | _ => none }
def TreePartsWrongFalsely : Prop := treePartsRow.holds Try.pinned (OpenSpec.ofChange treePartsWrong)

/-- 'glazierlaw14.BuildTells': WHATEVER THE INPUT: true; the input reads as it did. -/
def buildTellsSpec : ChangeSpec := { name := "buildTells", fn := fun _ => fun
  | [d] => { results := [.lit (.bool true)], args := [d] }
  | _ => none }
def buildTellsRow : OpenClaim := { program := "ytjhjcldpcngldaa", sum := "6bfe116ed3a92edaf27c466f51ee8184ae31421e32df6fe2f56ff74ff888852a", func := "glazier/glazierlaw14.BuildTells", spec := "buildTells", unfollowed := true, recurses := true, apart := false }
def BuildTellsSaid : Prop := buildTellsRow.holds Try.pinned (OpenSpec.ofChange buildTellsSpec)

/-- ITS FALSE NEIGHBOUR: 'it returns false'. Refute it at one input. -/
def buildTellsWrong : ChangeSpec := { name := "buildTells", fn := fun _ => fun
  | [d] => { results := [.lit (.bool false)], args := [d] }
  | _ => none }
def BuildTellsWrongFalsely : Prop := buildTellsRow.holds Try.pinned (OpenSpec.ofChange buildTellsWrong)

/-- 'glazierlaw02.UtfBack': WHATEVER THE INPUT: true; the input reads as it did. -/
def utfBackSpec : ChangeSpec := { name := "utfBack", fn := fun _ => fun
  | [d1, d2] => { results := [.lit (.bool true)], args := [d1, d2] }
  | _ => none }
def utfBackRow : OpenClaim := { program := "ytjhjcldpcngldaa", sum := "6bfe116ed3a92edaf27c466f51ee8184ae31421e32df6fe2f56ff74ff888852a", func := "glazier/glazierlaw02.UtfBack", spec := "utfBack", unfollowed := true, recurses := true, apart := false }
def UtfBackSaid : Prop := utfBackRow.holds Try.pinned (OpenSpec.ofChange utfBackSpec)

/-- ITS FALSE NEIGHBOUR: 'it returns false'. Refute it at one input. -/
def utfBackWrong : ChangeSpec := { name := "utfBack", fn := fun _ => fun
  | [d1, d2] => { results := [.lit (.bool false)], args := [d1, d2] }
  | _ => none }
def UtfBackWrongFalsely : Prop := utfBackRow.holds Try.pinned (OpenSpec.ofChange utfBackWrong)

/-- 'glazierlaw02.UtfTells': WHATEVER THE INPUT: true; the input reads as it did. -/
def utfTellsSpec : ChangeSpec := { name := "utfTells", fn := fun _ => fun
  | [d1, d2] => { results := [.lit (.bool true)], args := [d1, d2] }
  | _ => none }
def utfTellsRow : OpenClaim := { program := "ytjhjcldpcngldaa", sum := "6bfe116ed3a92edaf27c466f51ee8184ae31421e32df6fe2f56ff74ff888852a", func := "glazier/glazierlaw02.UtfTells", spec := "utfTells", unfollowed := true, recurses := true, apart := false }
def UtfTellsSaid : Prop := utfTellsRow.holds Try.pinned (OpenSpec.ofChange utfTellsSpec)

/-- ITS FALSE NEIGHBOUR: 'it returns false'. Refute it at one input. -/
def utfTellsWrong : ChangeSpec := { name := "utfTells", fn := fun _ => fun
  | [d1, d2] => { results := [.lit (.bool false)], args := [d1, d2] }
  | _ => none }
def UtfTellsWrongFalsely : Prop := utfTellsRow.holds Try.pinned (OpenSpec.ofChange utfTellsWrong)

/-- 'glazierlaw02.UtfRunes': WHATEVER THE INPUT: true; the input reads as it did. -/
def utfRunesSpec : ChangeSpec := { name := "utfRunes", fn := fun _ => fun
  | [d1, d2] => { results := [.lit (.bool true)], args := [d1, d2] }
  | _ => none }
def utfRunesRow : OpenClaim := { program := "ytjhjcldpcngldaa", sum := "6bfe116ed3a92edaf27c466f51ee8184ae31421e32df6fe2f56ff74ff888852a", func := "glazier/glazierlaw02.UtfRunes", spec := "utfRunes", unfollowed := true, recurses := true, apart := false }
def UtfRunesSaid : Prop := utfRunesRow.holds Try.pinned (OpenSpec.ofChange utfRunesSpec)

/-- ITS FALSE NEIGHBOUR: 'it returns false'. Refute it at one input. -/
def utfRunesWrong : ChangeSpec := { name := "utfRunes", fn := fun _ => fun
  | [d1, d2] => { results := [.lit (.bool false)], args := [d1, d2] }
  | _ => none }
def UtfRunesWrongFalsely : Prop := utfRunesRow.holds Try.pinned (OpenSpec.ofChange utfRunesWrong)

/-- 'glazierlaw11.TreeSames': WHATEVER THE INPUT: true; the input reads as it did. -/
def treeSamesSpec : ChangeSpec := { name := "treeSames", fn := fun _ => fun
  | [d1, d2] => { results := [.lit (.bool true)], args := [d1, d2] }
  | _ => none }
def treeSamesRow : OpenClaim := { program := "ytjhjcldpcngldaa", sum := "6bfe116ed3a92edaf27c466f51ee8184ae31421e32df6fe2f56ff74ff888852a", func := "glazier/glazierlaw11.TreeSames", spec := "treeSames", unfollowed := true, recurses := true, loops := true, apart := false }
def TreeSamesSaid : Prop := treeSamesRow.holds Try.pinned (OpenSpec.ofChange treeSamesSpec)

/-- ITS FALSE NEIGHBOUR: 'it returns false'. Refute it at one input. -/
def treeSamesWrong : ChangeSpec := { name := "treeSames", fn := fun _ => fun
  | [d1, d2] => { results := [.lit (.bool false)], args := [d1, d2] }
  | _ => none }
def TreeSamesWrongFalsely : Prop := treeSamesRow.holds Try.pinned (OpenSpec.ofChange treeSamesWrong)

/-- 'glazierlaw36.OutlineTells': WHATEVER THE INPUT: true; the input reads as it did. -/
def outlineTellsSpec : ChangeSpec := { name := "outlineTells", fn := fun _ => fun
  | [d] => { results := [.lit (.bool true)], args := [d] }
  | _ => none }
def outlineTellsRow : OpenClaim := { program := "ytjhjcldpcngldaa", sum := "6bfe116ed3a92edaf27c466f51ee8184ae31421e32df6fe2f56ff74ff888852a", func := "glazier/glazierlaw36.OutlineTells", spec := "outlineTells", inPlace := ["internal/abi.NoEscape"], unfollowed := true, recurses := true, loops := true, apart := false }
def OutlineTellsSaid : Prop := outlineTellsRow.holds Try.pinned (OpenSpec.ofChange outlineTellsSpec)

/-- ITS FALSE NEIGHBOUR: 'it returns false'. Refute it at one input. -/
def outlineTellsWrong : ChangeSpec := { name := "outlineTells", fn := fun _ => fun
  | [d] => { results := [.lit (.bool false)], args := [d] }
  | _ => none }
def OutlineTellsWrongFalsely : Prop := outlineTellsRow.holds Try.pinned (OpenSpec.ofChange outlineTellsWrong)

/-- 'glazierlaw26.CapsNobody': WHATEVER THE INPUT: true; the input reads as it did. -/
def capsNobodySpec : ChangeSpec := { name := "capsNobody", fn := fun _ => fun
  | [d1, d2] => { results := [.lit (.bool true)], args := [d1, d2] }
  | _ => none }
def capsNobodyRow : OpenClaim := { program := "ytjhjcldpcngldaa", sum := "6bfe116ed3a92edaf27c466f51ee8184ae31421e32df6fe2f56ff74ff888852a", func := "glazier/glazierlaw26.CapsNobody", spec := "capsNobody", unfollowed := true, recurses := true, apart := false }
def CapsNobodySaid : Prop := capsNobodyRow.holds Try.pinned (OpenSpec.ofChange capsNobodySpec)

/-- ITS FALSE NEIGHBOUR: 'it returns false'. Refute it at one input. -/
def capsNobodyWrong : ChangeSpec := { name := "capsNobody", fn := fun _ => fun
  | [d1, d2] => { results := [.lit (.bool false)], args := [d1, d2] }
  | _ => none }
def CapsNobodyWrongFalsely : Prop := capsNobodyRow.holds Try.pinned (OpenSpec.ofChange capsNobodyWrong)

/-- 'glazierlaw14.BuildAll': WHATEVER THE INPUT: true; the input reads as it did. -/
def buildAllSpec : ChangeSpec := { name := "buildAll", fn := fun _ => fun
  | [d] => { results := [.lit (.bool true)], args := [d] }
  | _ => none }
def buildAllRow : OpenClaim := { program := "ytjhjcldpcngldaa", sum := "6bfe116ed3a92edaf27c466f51ee8184ae31421e32df6fe2f56ff74ff888852a", func := "glazier/glazierlaw14.BuildAll", spec := "buildAll", unfollowed := true, recurses := true, apart := false }
def BuildAllSaid : Prop := buildAllRow.holds Try.pinned (OpenSpec.ofChange buildAllSpec)

/-- ITS FALSE NEIGHBOUR: 'it returns false'. Refute it at one input. -/
def buildAllWrong : ChangeSpec := { name := "buildAll", fn := fun _ => fun
  | [d] => { results := [.lit (.bool false)], args := [d] }
  | _ => none }
def BuildAllWrongFalsely : Prop := buildAllRow.holds Try.pinned (OpenSpec.ofChange buildAllWrong)

/-- 'glazierlaw12.SerialTags': WHATEVER THE INPUT: true; the input reads as it did. -/
def serialTagsSpec : ChangeSpec := { name := "serialTags", fn := fun _ => fun
  | [d] => { results := [.lit (.bool true)], args := [d] }
  | _ => none }
def serialTagsRow : OpenClaim := { program := "ytjhjcldpcngldaa", sum := "6bfe116ed3a92edaf27c466f51ee8184ae31421e32df6fe2f56ff74ff888852a", func := "glazier/glazierlaw12.SerialTags", spec := "serialTags", inPlace := ["internal/bytealg.IndexByteString"], unfollowed := true, recurses := true, loops := true, apart := false }
def SerialTagsSaid : Prop := serialTagsRow.holds Try.pinned (OpenSpec.ofChange serialTagsSpec)

/-- ITS FALSE NEIGHBOUR: 'it returns false'. Refute it at one input. -/
def serialTagsWrong : ChangeSpec := { name := "serialTags", fn := fun _ => fun
  | [d] => { results := [.lit (.bool false)], args := [d] }
  | _ => none }
def SerialTagsWrongFalsely : Prop := serialTagsRow.holds Try.pinned (OpenSpec.ofChange serialTagsWrong)

/- THE SECOND FORM. 'bulk': how many values and letters a reading holds, each counted each time it is reached (what is shared counts as often as it is met; a slice's spare places count too). A statement '..UptoSaid' is the law's where the arguments, and the package variables that the reading takes, are together of bulk at most 1048576: NARROWER than '..Said'. Prove '..Said' where nothing that the law and all that it calls make is longer than what came in: it says more and counts as full. Else prove '..UptoSaid'. A law counts once. -/
mutual
def uptoBulk {H : Type} : DataW H → Nat
  | .lit (.string bytes) => bytes.length + 1
  | .lit _ => 1
  | .nil => 1
  | .ptr d => uptoBulk d + 1
  | .slice elems spare => uptoBulkAll elems + uptoBulkAll spare + 1
  | .agg parts => uptoBulkAll parts + 1
  | .iface _ d => uptoBulk d + 1
  | .map entries => uptoBulkEntries entries + 1
  | .held _ => 1
def uptoBulkAll {H : Type} : List (DataW H) → Nat
  | [] => 0
  | d :: r => uptoBulk d + uptoBulkAll r
def uptoBulkEntries {H : Type} : List (Lit × DataW H) → Nat
  | [] => 0
  | x :: r => uptoBulkEntry x + uptoBulkEntries r
def uptoBulkEntry {H : Type} : Lit × DataW H → Nat
  | (.string bytes, d) => bytes.length + uptoBulk d + 1
  | (_, d) => uptoBulk d + 1
 end
def uptoSmall : (H : Type) → List (DataW H) → Bool := fun _ ds => decide (uptoBulkAll ds ≤ 1048576)
def OpenSpec.upto (s : _root_.Go.ChangeSpec) : _root_.Go.OpenSpec := { _root_.Go.OpenSpec.ofChange s with cond := some uptoSmall }

/-- 'glazierlaw26.CapsRuns', WHERE WHAT IT READS IS OF BULK AT MOST 1048576: true; the input reads as it did. -/
def capsRunsUptoRow : OpenClaim := { program := "ytjhjcldpcngldaa", sum := "6bfe116ed3a92edaf27c466f51ee8184ae31421e32df6fe2f56ff74ff888852a", func := "glazier/glazierlaw26.CapsRuns", spec := "capsRuns", unfollowed := true, recurses := true, apart := false, narrowed := true }
def CapsRunsUptoSaid : Prop := capsRunsUptoRow.holds Try.pinned (OpenSpec.upto capsRunsSpec)

/-- 'glazierlaw42.UndoNobody', WHERE WHAT IT READS IS OF BULK AT MOST 1048576: true; the input reads as it did. -/
def undoNobodyUptoRow : OpenClaim := { program := "ytjhjcldpcngldaa", sum := "6bfe116ed3a92edaf27c466f51ee8184ae31421e32df6fe2f56ff74ff888852a", func := "glazier/glazierlaw42.UndoNobody", spec := "undoNobody", inPlace := ["maps.clone"], apart := false, narrowed := true }
def UndoNobodyUptoSaid : Prop := undoNobodyUptoRow.holds Try.pinned (OpenSpec.upto undoNobodySpec)

/-- 'glazierlaw36.OutlineQuotes', WHERE WHAT IT READS IS OF BULK AT MOST 1048576: true; the input reads as it did. -/
def outlineQuotesUptoRow : OpenClaim := { program := "ytjhjcldpcngldaa", sum := "6bfe116ed3a92edaf27c466f51ee8184ae31421e32df6fe2f56ff74ff888852a", func := "glazier/glazierlaw36.OutlineQuotes", spec := "outlineQuotes", unfollowed := true, recurses := true, apart := false, narrowed := true }
def OutlineQuotesUptoSaid : Prop := outlineQuotesUptoRow.holds Try.pinned (OpenSpec.upto outlineQuotesSpec)

/-- 'glazierlaw11.TreeTells', WHERE WHAT IT READS IS OF BULK AT MOST 1048576: true; the input reads as it did. -/
def treeTellsUptoRow : OpenClaim := { program := "ytjhjcldpcngldaa", sum := "6bfe116ed3a92edaf27c466f51ee8184ae31421e32df6fe2f56ff74ff888852a", func := "glazier/glazierlaw11.TreeTells", spec := "treeTells", unfollowed := true, recurses := true, loops := true, apart := false, narrowed := true }
def TreeTellsUptoSaid : Prop := treeTellsUptoRow.holds Try.pinned (OpenSpec.upto treeTellsSpec)

/-- 'glazierlaw11.TreeParts', WHERE WHAT IT READS IS OF BULK AT MOST 1048576: true; the input reads as it did. -/
def treePartsUptoRow : OpenClaim := { program := "ytjhjcldpcngldaa", sum := "6bfe116ed3a92edaf27c466f51ee8184ae31421e32df6fe2f56ff74ff888852a", func := "glazier/glazierlaw11.TreeParts", spec := "treeParts", unfollowed := true, recurses := true, loops := true, apart := false, narrowed := true }
def TreePartsUptoSaid : Prop := treePartsUptoRow.holds Try.pinned (OpenSpec.upto treePartsSpec)

/-- 'glazierlaw14.BuildTells', WHERE WHAT IT READS IS OF BULK AT MOST 1048576: true; the input reads as it did. -/
def buildTellsUptoRow : OpenClaim := { program := "ytjhjcldpcngldaa", sum := "6bfe116ed3a92edaf27c466f51ee8184ae31421e32df6fe2f56ff74ff888852a", func := "glazier/glazierlaw14.BuildTells", spec := "buildTells", unfollowed := true, recurses := true, apart := false, narrowed := true }
def BuildTellsUptoSaid : Prop := buildTellsUptoRow.holds Try.pinned (OpenSpec.upto buildTellsSpec)

/-- 'glazierlaw02.UtfBack', WHERE WHAT IT READS IS OF BULK AT MOST 1048576: true; the input reads as it did. -/
def utfBackUptoRow : OpenClaim := { program := "ytjhjcldpcngldaa", sum := "6bfe116ed3a92edaf27c466f51ee8184ae31421e32df6fe2f56ff74ff888852a", func := "glazier/glazierlaw02.UtfBack", spec := "utfBack", unfollowed := true, recurses := true, apart := false, narrowed := true }
def UtfBackUptoSaid : Prop := utfBackUptoRow.holds Try.pinned (OpenSpec.upto utfBackSpec)

/-- 'glazierlaw02.UtfTells', WHERE WHAT IT READS IS OF BULK AT MOST 1048576: true; the input reads as it did. -/
def utfTellsUptoRow : OpenClaim := { program := "ytjhjcldpcngldaa", sum := "6bfe116ed3a92edaf27c466f51ee8184ae31421e32df6fe2f56ff74ff888852a", func := "glazier/glazierlaw02.UtfTells", spec := "utfTells", unfollowed := true, recurses := true, apart := false, narrowed := true }
def UtfTellsUptoSaid : Prop := utfTellsUptoRow.holds Try.pinned (OpenSpec.upto utfTellsSpec)

/-- 'glazierlaw02.UtfRunes', WHERE WHAT IT READS IS OF BULK AT MOST 1048576: true; the input reads as it did. -/
def utfRunesUptoRow : OpenClaim := { program := "ytjhjcldpcngldaa", sum := "6bfe116ed3a92edaf27c466f51ee8184ae31421e32df6fe2f56ff74ff888852a", func := "glazier/glazierlaw02.UtfRunes", spec := "utfRunes", unfollowed := true, recurses := true, apart := false, narrowed := true }
def UtfRunesUptoSaid : Prop := utfRunesUptoRow.holds Try.pinned (OpenSpec.upto utfRunesSpec)

/-- 'glazierlaw11.TreeSames', WHERE WHAT IT READS IS OF BULK AT MOST 1048576: true; the input reads as it did. -/
def treeSamesUptoRow : OpenClaim := { program := "ytjhjcldpcngldaa", sum := "6bfe116ed3a92edaf27c466f51ee8184ae31421e32df6fe2f56ff74ff888852a", func := "glazier/glazierlaw11.TreeSames", spec := "treeSames", unfollowed := true, recurses := true, loops := true, apart := false, narrowed := true }
def TreeSamesUptoSaid : Prop := treeSamesUptoRow.holds Try.pinned (OpenSpec.upto treeSamesSpec)

/-- 'glazierlaw36.OutlineTells', WHERE WHAT IT READS IS OF BULK AT MOST 1048576: true; the input reads as it did. -/
def outlineTellsUptoRow : OpenClaim := { program := "ytjhjcldpcngldaa", sum := "6bfe116ed3a92edaf27c466f51ee8184ae31421e32df6fe2f56ff74ff888852a", func := "glazier/glazierlaw36.OutlineTells", spec := "outlineTells", inPlace := ["internal/abi.NoEscape"], unfollowed := true, recurses := true, loops := true, apart := false, narrowed := true }
def OutlineTellsUptoSaid : Prop := outlineTellsUptoRow.holds Try.pinned (OpenSpec.upto outlineTellsSpec)

/-- 'glazierlaw26.CapsNobody', WHERE WHAT IT READS IS OF BULK AT MOST 1048576: true; the input reads as it did. -/
def capsNobodyUptoRow : OpenClaim := { program := "ytjhjcldpcngldaa", sum := "6bfe116ed3a92edaf27c466f51ee8184ae31421e32df6fe2f56ff74ff888852a", func := "glazier/glazierlaw26.CapsNobody", spec := "capsNobody", unfollowed := true, recurses := true, apart := false, narrowed := true }
def CapsNobodyUptoSaid : Prop := capsNobodyUptoRow.holds Try.pinned (OpenSpec.upto capsNobodySpec)

/-- 'glazierlaw14.BuildAll', WHERE WHAT IT READS IS OF BULK AT MOST 1048576: true; the input reads as it did. -/
def buildAllUptoRow : OpenClaim := { program := "ytjhjcldpcngldaa", sum := "6bfe116ed3a92edaf27c466f51ee8184ae31421e32df6fe2f56ff74ff888852a", func := "glazier/glazierlaw14.BuildAll", spec := "buildAll", unfollowed := true, recurses := true, apart := false, narrowed := true }
def BuildAllUptoSaid : Prop := buildAllUptoRow.holds Try.pinned (OpenSpec.upto buildAllSpec)

/-- 'glazierlaw12.SerialTags', WHERE WHAT IT READS IS OF BULK AT MOST 1048576: true; the input reads as it did. -/
def serialTagsUptoRow : OpenClaim := { program := "ytjhjcldpcngldaa", sum := "6bfe116ed3a92edaf27c466f51ee8184ae31421e32df6fe2f56ff74ff888852a", func := "glazier/glazierlaw12.SerialTags", spec := "serialTags", inPlace := ["internal/bytealg.IndexByteString"], unfollowed := true, recurses := true, loops := true, apart := false, narrowed := true }
def SerialTagsUptoSaid : Prop := serialTagsUptoRow.holds Try.pinned (OpenSpec.upto serialTagsSpec)

end Rows
end Go.Proofs.Ytjhjcldpcngldaa
