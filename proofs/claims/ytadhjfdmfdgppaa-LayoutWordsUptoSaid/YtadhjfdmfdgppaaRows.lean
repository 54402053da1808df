/-
  No cell of these rows narrows 'for every input' (looked for: loops, veiled, ifaces, maps, wideKeys, modest, calm, conditions, laid).
  DERIVED. THE GIVEN ROWS OF THIS SEAT. 13 by the template 'for every input the law returns true; each argument reads behind the call as it read before'; 0 by the template 'total and deterministic' (their statements: YtadhjfdmfdgppaaTotals.lean).
  GIVEN WITH THE SEED: the statements are not yours to turn. If you find one false, say at which input.
  Laid BY PROGRAM, IN A SANDBOX (cutbox-rows.mjs): the forced cells as the released guide's own fill.sh prints them over the translation 431ab2cf1f13666c… (all of the seat's roots in one cut). By AI agents, Wed Nov 11 2026. No macro, syntax, notation, axiom, sorry.
-/
import Derived.Test.YtadhjfdmfdgppaaChecked
import GoSem.Claim
import GoSem.ClaimJoined
import GoSem.ClaimMapViews
import Derived.JoinedTies
import Derived.KernelRfl
namespace Go.Proofs.Ytadhjfdmfdgppaa
/- THE CELL 'sum', in the pinned program and in every row, IS THE sha256 OF THE DUMP (.gsa) THAT YtadhjfdmfdgppaaProg.lean LOADS. Nothing in Lean hashes anything: it is a label: what it is worth is what the hold of that sum in a sandbox is worth. -/
noncomputable def Try.pinned : Pinned := { name := "ytadhjfdmfdgppaa", sum := "431ab2cf1f13666c050e3d8d73015fa05090efb5a9e881b6a1ea6b63142754f4", checked := Try.checked }
namespace Rows
def none {H : Type} : Left H := { results := [], args := [] }

/-- 'glazierlaw22.MatchTells': WHATEVER THE INPUT: true; the input reads as it did. -/
def matchTellsSpec : ChangeSpec := { name := "matchTells", fn := fun _ => fun
  | [d1, d2] => { results := [.lit (.bool true)], args := [d1, d2] }
  | _ => none }
def matchTellsRow : OpenClaim := { program := "ytadhjfdmfdgppaa", sum := "431ab2cf1f13666c050e3d8d73015fa05090efb5a9e881b6a1ea6b63142754f4", func := "glazier/glazierlaw22.MatchTells", spec := "matchTells", apart := false }
def MatchTellsSaid : Prop := matchTellsRow.holds Try.pinned (OpenSpec.ofChange matchTellsSpec)

/-- ITS FALSE NEIGHBOUR: 'it returns false'. Refute it at one input. -/
def matchTellsWrong : ChangeSpec := { name := "matchTells", fn := fun _ => fun
  | [d1, d2] => { results := [.lit (.bool false)], args := [d1, d2] }
  | _ => none }
def MatchTellsWrongFalsely : Prop := matchTellsRow.holds Try.pinned (OpenSpec.ofChange matchTellsWrong)

/-- 'glazierlaw22.MatchSame': WHATEVER THE INPUT: true; the input reads as it did. -/
def matchSameSpec : ChangeSpec := { name := "matchSame", fn := fun _ => fun
  | [d] => { results := [.lit (.bool true)], args := [d] }
  | _ => none }
def matchSameRow : OpenClaim := { program := "ytadhjfdmfdgppaa", sum := "431ab2cf1f13666c050e3d8d73015fa05090efb5a9e881b6a1ea6b63142754f4", func := "glazier/glazierlaw22.MatchSame", spec := "matchSame", apart := false }
def MatchSameSaid : Prop := matchSameRow.holds Try.pinned (OpenSpec.ofChange matchSameSpec)

/-- ITS FALSE NEIGHBOUR: 'it returns false'. Refute it at one input. -/
def matchSameWrong : ChangeSpec := { name := "matchSame", fn := fun _ => fun
  | [d] => { results := [.lit (.bool false)], args := [d] }
  | _ => none }
def MatchSameWrongFalsely : Prop := matchSameRow.holds Try.pinned (OpenSpec.ofChange matchSameWrong)

/-- 'glazierlaw46.LayoutWraps': WHATEVER THE INPUT: true; the input reads as it did. -/
def layoutWrapsSpec : ChangeSpec := { name := "layoutWraps", fn := fun _ => fun
  | [d1, d2] => { results := [.lit (.bool true)], args := [d1, d2] }
  | _ => none }
def layoutWrapsRow : OpenClaim := { program := "ytadhjfdmfdgppaa", sum := "431ab2cf1f13666c050e3d8d73015fa05090efb5a9e881b6a1ea6b63142754f4", func := "glazier/glazierlaw46.LayoutWraps", spec := "layoutWraps", apart := false }
def LayoutWrapsSaid : Prop := layoutWrapsRow.holds Try.pinned (OpenSpec.ofChange layoutWrapsSpec)

/-- ITS FALSE NEIGHBOUR: 'it returns false'. Refute it at one input. -/
def layoutWrapsWrong : ChangeSpec := { name := "layoutWraps", fn := fun _ => fun
  | [d1, d2] => { results := [.lit (.bool false)], args := [d1, d2] }
  | _ => none }
def LayoutWrapsWrongFalsely : Prop := layoutWrapsRow.holds Try.pinned (OpenSpec.ofChange layoutWrapsWrong)

/-- 'glazierlaw46.LayoutWords': WHATEVER THE INPUT: true; the input reads as it did. -/
def layoutWordsSpec : ChangeSpec := { name := "layoutWords", fn := fun _ => fun
  | [d1, d2] => { results := [.lit (.bool true)], args := [d1, d2] }
  | _ => none }
def layoutWordsRow : OpenClaim := { program := "ytadhjfdmfdgppaa", sum := "431ab2cf1f13666c050e3d8d73015fa05090efb5a9e881b6a1ea6b63142754f4", func := "glazier/glazierlaw46.LayoutWords", spec := "layoutWords", apart := false }
def LayoutWordsSaid : Prop := layoutWordsRow.holds Try.pinned (OpenSpec.ofChange layoutWordsSpec)

/-- ITS FALSE NEIGHBOUR: 'it returns false'. Refute it at one input. -/
def layoutWordsWrong : ChangeSpec := { name := "layoutWords", fn := fun _ => fun
  | [d1, d2] => { results := [.lit (.bool false)], args := [d1, d2] }
  | _ => none }
def LayoutWordsWrongFalsely : Prop := layoutWordsRow.holds Try.pinned (OpenSpec.ofChange layoutWordsWrong)

/-- 'glazierlaw27.CodeJoins': WHATEVER THE INPUT: true; the input reads as it did. -/
def codeJoinsSpec : ChangeSpec := { name := "codeJoins", fn := fun _ => fun
  | [d1, d2] => { results := [.lit (.bool true)], args := [d1, d2] }
  | _ => none }
def codeJoinsRow : OpenClaim := { program := "ytadhjfdmfdgppaa", sum := "431ab2cf1f13666c050e3d8d73015fa05090efb5a9e881b6a1ea6b63142754f4", func := "glazier/glazierlaw27.CodeJoins", spec := "codeJoins", unfollowed := true, recurses := true, apart := false }
def CodeJoinsSaid : Prop := codeJoinsRow.holds Try.pinned (OpenSpec.ofChange codeJoinsSpec)

/-- ITS FALSE NEIGHBOUR: 'it returns false'. Refute it at one input. -/
def codeJoinsWrong : ChangeSpec := { name := "codeJoins", fn := fun _ => fun
  | [d1, d2] => { results := [.lit (.bool false)], args := [d1, d2] }
  | _ => none }
def CodeJoinsWrongFalsely : Prop := codeJoinsRow.holds Try.pinned (OpenSpec.ofChange codeJoinsWrong)

/-- 'glazierlaw16.AllowOwn': WHATEVER THE INPUT: true; the input reads as it did. -/
def allowOwnSpec : ChangeSpec := { name := "allowOwn", fn := fun _ => fun
  | [d] => { results := [.lit (.bool true)], args := [d] }
  | _ => none }
def allowOwnRow : OpenClaim := { program := "ytadhjfdmfdgppaa", sum := "431ab2cf1f13666c050e3d8d73015fa05090efb5a9e881b6a1ea6b63142754f4", func := "glazier/glazierlaw16.AllowOwn", spec := "allowOwn", unfollowed := true, recurses := true, apart := false }
def AllowOwnSaid : Prop := allowOwnRow.holds Try.pinned (OpenSpec.ofChange allowOwnSpec)

/-- ITS FALSE NEIGHBOUR: 'it returns false'. Refute it at one input. -/
def allowOwnWrong : ChangeSpec := { name := "allowOwn", fn := fun _ => fun
  | [d] => { results := [.lit (.bool false)], args := [d] }
  | _ => none }
def AllowOwnWrongFalsely : Prop := allowOwnRow.holds Try.pinned (OpenSpec.ofChange allowOwnWrong)

/-- 'glazierlaw26.CapsRuns': WHATEVER THE INPUT: true; the input reads as it did. -/
def capsRunsSpec : ChangeSpec := { name := "capsRuns", fn := fun _ => fun
  | [d1, d2, d3, d4] => { results := [.lit (.bool true)], args := [d1, d2, d3, d4] }
  | _ => none }
def capsRunsRow : OpenClaim := { program := "ytadhjfdmfdgppaa", sum := "431ab2cf1f13666c050e3d8d73015fa05090efb5a9e881b6a1ea6b63142754f4", func := "glazier/glazierlaw26.CapsRuns", spec := "capsRuns", unfollowed := true, recurses := true, apart := false }
def CapsRunsSaid : Prop := capsRunsRow.holds Try.pinned (OpenSpec.ofChange capsRunsSpec)

/-- ITS FALSE NEIGHBOUR: 'it returns false'. Refute it at one input. -/
def capsRunsWrong : ChangeSpec := { name := "capsRuns", fn := fun _ => fun
  | [d1, d2, d3, d4] => { results := [.lit (.bool false)], args := [d1, d2, d3, d4] }
  | _ => none }
def CapsRunsWrongFalsely : Prop := capsRunsRow.holds Try.pinned (OpenSpec.ofChange capsRunsWrong)

/-- 'glazierlaw16.AllowTells': WHATEVER THE INPUT: true; the input reads as it did. -/
def allowTellsSpec : ChangeSpec := { name := "allowTells", fn := fun _ => fun
  | [d] => { results := [.lit (.bool true)], args := [d] }
  | _ => none }
def allowTellsRow : OpenClaim := { program := "ytadhjfdmfdgppaa", sum := "431ab2cf1f13666c050e3d8d73015fa05090efb5a9e881b6a1ea6b63142754f4", func := "glazier/glazierlaw16.AllowTells", spec := "allowTells", unfollowed := true, recurses := true, apart := false }
def AllowTellsSaid : Prop := allowTellsRow.holds Try.pinned (OpenSpec.ofChange allowTellsSpec)

/-- ITS FALSE NEIGHBOUR: 'it returns false'. Refute it at one input. -/
def allowTellsWrong : ChangeSpec := { name := "allowTells", fn := fun _ => fun
  | [d] => { results := [.lit (.bool false)], args := [d] }
  | _ => none }
def AllowTellsWrongFalsely : Prop := allowTellsRow.holds Try.pinned (OpenSpec.ofChange allowTellsWrong)

/-- 'glazierlaw27.CodeBack': WHATEVER THE INPUT: true; the input reads as it did. -/
def codeBackSpec : ChangeSpec := { name := "codeBack", fn := fun _ => fun
  | [d1, d2] => { results := [.lit (.bool true)], args := [d1, d2] }
  | _ => none }
def codeBackRow : OpenClaim := { program := "ytadhjfdmfdgppaa", sum := "431ab2cf1f13666c050e3d8d73015fa05090efb5a9e881b6a1ea6b63142754f4", func := "glazier/glazierlaw27.CodeBack", spec := "codeBack", unfollowed := true, recurses := true, apart := false }
def CodeBackSaid : Prop := codeBackRow.holds Try.pinned (OpenSpec.ofChange codeBackSpec)

/-- ITS FALSE NEIGHBOUR: 'it returns false'. Refute it at one input. -/
def codeBackWrong : ChangeSpec := { name := "codeBack", fn := fun _ => fun
  | [d1, d2] => { results := [.lit (.bool false)], args := [d1, d2] }
  | _ => none }
def CodeBackWrongFalsely : Prop := codeBackRow.holds Try.pinned (OpenSpec.ofChange codeBackWrong)

/-- 'glazierlaw27.CodeChecks': WHATEVER THE INPUT: true; the input reads as it did. -/
def codeChecksSpec : ChangeSpec := { name := "codeChecks", fn := fun _ => fun
  | [d1, d2, d3] => { results := [.lit (.bool true)], args := [d1, d2, d3] }
  | _ => none }
def codeChecksRow : OpenClaim := { program := "ytadhjfdmfdgppaa", sum := "431ab2cf1f13666c050e3d8d73015fa05090efb5a9e881b6a1ea6b63142754f4", func := "glazier/glazierlaw27.CodeChecks", spec := "codeChecks", unfollowed := true, recurses := true, apart := false }
def CodeChecksSaid : Prop := codeChecksRow.holds Try.pinned (OpenSpec.ofChange codeChecksSpec)

/-- ITS FALSE NEIGHBOUR: 'it returns false'. Refute it at one input. -/
def codeChecksWrong : ChangeSpec := { name := "codeChecks", fn := fun _ => fun
  | [d1, d2, d3] => { results := [.lit (.bool false)], args := [d1, d2, d3] }
  | _ => none }
def CodeChecksWrongFalsely : Prop := codeChecksRow.holds Try.pinned (OpenSpec.ofChange codeChecksWrong)

/-- 'glazierlaw10.AttrsLeast': WHATEVER THE INPUT: true; the input reads as it did. -/
def attrsLeastSpec : ChangeSpec := { name := "attrsLeast", fn := fun _ => fun
  | [d1, d2] => { results := [.lit (.bool true)], args := [d1, d2] }
  | _ => none }
def attrsLeastRow : OpenClaim := { program := "ytadhjfdmfdgppaa", sum := "431ab2cf1f13666c050e3d8d73015fa05090efb5a9e881b6a1ea6b63142754f4", func := "glazier/glazierlaw10.AttrsLeast", spec := "attrsLeast", unfollowed := true, recurses := true, apart := false }
def AttrsLeastSaid : Prop := attrsLeastRow.holds Try.pinned (OpenSpec.ofChange attrsLeastSpec)

/-- ITS FALSE NEIGHBOUR: 'it returns false'. Refute it at one input. -/
def attrsLeastWrong : ChangeSpec := { name := "attrsLeast", fn := fun _ => fun
  | [d1, d2] => { results := [.lit (.bool false)], args := [d1, d2] }
  | _ => none }
def AttrsLeastWrongFalsely : Prop := attrsLeastRow.holds Try.pinned (OpenSpec.ofChange attrsLeastWrong)

/-- 'glazierlaw10.AttrsTells': WHATEVER THE INPUT: true; the input reads as it did. -/
def attrsTellsSpec : ChangeSpec := { name := "attrsTells", fn := fun _ => fun
  | [d1, d2, d3] => { results := [.lit (.bool true)], args := [d1, d2, d3] }
  | _ => none }
def attrsTellsRow : OpenClaim := { program := "ytadhjfdmfdgppaa", sum := "431ab2cf1f13666c050e3d8d73015fa05090efb5a9e881b6a1ea6b63142754f4", func := "glazier/glazierlaw10.AttrsTells", spec := "attrsTells", unfollowed := true, recurses := true, apart := false }
def AttrsTellsSaid : Prop := attrsTellsRow.holds Try.pinned (OpenSpec.ofChange attrsTellsSpec)

/-- ITS FALSE NEIGHBOUR: 'it returns false'. Refute it at one input. -/
def attrsTellsWrong : ChangeSpec := { name := "attrsTells", fn := fun _ => fun
  | [d1, d2, d3] => { results := [.lit (.bool false)], args := [d1, d2, d3] }
  | _ => none }
def AttrsTellsWrongFalsely : Prop := attrsTellsRow.holds Try.pinned (OpenSpec.ofChange attrsTellsWrong)

/-- 'glazierlaw42.UndoNobody': WHATEVER THE INPUT: true; the input reads as it did. -/
def undoNobodySpec : ChangeSpec := { name := "undoNobody", fn := fun _ => fun
  | [d] => { results := [.lit (.bool true)], args := [d] }
  | _ => none }
def undoNobodyRow : OpenClaim := { program := "ytadhjfdmfdgppaa", sum := "431ab2cf1f13666c050e3d8d73015fa05090efb5a9e881b6a1ea6b63142754f4", func := "glazier/glazierlaw42.UndoNobody", spec := "undoNobody", inPlace := ["maps.clone"], apart := false }
def UndoNobodySaid : Prop := undoNobodyRow.holds Try.pinned (OpenSpec.ofChange undoNobodySpec)

/-- ITS FALSE NEIGHBOUR: 'it returns false'. Refute it at one input. -/
def undoNobodyWrong : ChangeSpec := { name := "undoNobody", fn := fun _ => fun
  | [d] => { results := [.lit (.bool false)], args := [d] }
  | _ => none }
def UndoNobodyWrongFalsely : Prop := undoNobodyRow.holds Try.pinned (OpenSpec.ofChange undoNobodyWrong)

/- THE SECOND FORM. 'bulk': how many values and letters a reading holds, each counted each time it is reached (what is shared counts as often as it is met; a slice's spare places count too). A statement '..UptoSaid' is the law's where the arguments, and the package variables that the reading takes, are together of bulk at most 1048576: NARROWER than '..Said'. Prove '..Said' where nothing that the law and all that it calls make is longer than what came in: it says more and counts as full. Else prove '..UptoSaid'. A law counts once. -/
mutual
def uptoBulk {H : Type} : DataW H → Nat
  | .lit (.string bytes) => bytes.length + 1
  | .lit _ => 1
  | .nil => 1
  | .ptr d => uptoBulk d + 1
  | .slice elems spare => uptoBulkAll elems + uptoBulkAll spare + 1
  | .agg parts => uptoBulkAll parts + 1
  | .iface _ d => uptoBulk d + 1
  | .map entries => uptoBulkEntries entries + 1
  | .held _ => 1
def uptoBulkAll {H : Type} : List (DataW H) → Nat
  | [] => 0
  | d :: r => uptoBulk d + uptoBulkAll r
def uptoBulkEntries {H : Type} : List (Lit × DataW H) → Nat
  | [] => 0
  | x :: r => uptoBulkEntry x + uptoBulkEntries r
def uptoBulkEntry {H : Type} : Lit × DataW H → Nat
  | (.string bytes, d) => bytes.length + uptoBulk d + 1
  | (_, d) => uptoBulk d + 1
 end
def uptoSmall : (H : Type) → List (DataW H) → Bool := fun _ ds => decide (uptoBulkAll ds ≤ 1048576)
def OpenSpec.upto (s : _root_.Go.ChangeSpec) : _root_.Go.OpenSpec := { _root_.Go.OpenSpec.ofChange s with cond := some uptoSmall }

/-- 'glazierlaw22.MatchTells', WHERE WHAT IT READS IS OF BULK AT MOST 1048576: true; the input reads as it did. -/
def matchTellsUptoRow : OpenClaim := { program := "ytadhjfdmfdgppaa", sum := "431ab2cf1f13666c050e3d8d73015fa05090efb5a9e881b6a1ea6b63142754f4", func := "glazier/glazierlaw22.MatchTells", spec := "matchTells", apart := false, narrowed := true }
def MatchTellsUptoSaid : Prop := matchTellsUptoRow.holds Try.pinned (OpenSpec.upto matchTellsSpec)

/-- 'glazierlaw22.MatchSame', WHERE WHAT IT READS IS OF BULK AT MOST 1048576: true; the input reads as it did. -/
def matchSameUptoRow : OpenClaim := { program := "ytadhjfdmfdgppaa", sum := "431ab2cf1f13666c050e3d8d73015fa05090efb5a9e881b6a1ea6b63142754f4", func := "glazier/glazierlaw22.MatchSame", spec := "matchSame", apart := false, narrowed := true }
def MatchSameUptoSaid : Prop := matchSameUptoRow.holds Try.pinned (OpenSpec.upto matchSameSpec)

/-- 'glazierlaw46.LayoutWraps', WHERE WHAT IT READS IS OF BULK AT MOST 1048576: true; the input reads as it did. -/
def layoutWrapsUptoRow : OpenClaim := { program := "ytadhjfdmfdgppaa", sum := "431ab2cf1f13666c050e3d8d73015fa05090efb5a9e881b6a1ea6b63142754f4", func := "glazier/glazierlaw46.LayoutWraps", spec := "layoutWraps", apart := false, narrowed := true }
def LayoutWrapsUptoSaid : Prop := layoutWrapsUptoRow.holds Try.pinned (OpenSpec.upto layoutWrapsSpec)

/-- 'glazierlaw46.LayoutWords', WHERE WHAT IT READS IS OF BULK AT MOST 1048576: true; the input reads as it did. -/
def layoutWordsUptoRow : OpenClaim := { program := "ytadhjfdmfdgppaa", sum := "431ab2cf1f13666c050e3d8d73015fa05090efb5a9e881b6a1ea6b63142754f4", func := "glazier/glazierlaw46.LayoutWords", spec := "layoutWords", apart := false, narrowed := true }
def LayoutWordsUptoSaid : Prop := layoutWordsUptoRow.holds Try.pinned (OpenSpec.upto layoutWordsSpec)

/-- 'glazierlaw27.CodeJoins', WHERE WHAT IT READS IS OF BULK AT MOST 1048576: true; the input reads as it did. -/
def codeJoinsUptoRow : OpenClaim := { program := "ytadhjfdmfdgppaa", sum := "431ab2cf1f13666c050e3d8d73015fa05090efb5a9e881b6a1ea6b63142754f4", func := "glazier/glazierlaw27.CodeJoins", spec := "codeJoins", unfollowed := true, recurses := true, apart := false, narrowed := true }
def CodeJoinsUptoSaid : Prop := codeJoinsUptoRow.holds Try.pinned (OpenSpec.upto codeJoinsSpec)

/-- 'glazierlaw16.AllowOwn', WHERE WHAT IT READS IS OF BULK AT MOST 1048576: true; the input reads as it did. -/
def allowOwnUptoRow : OpenClaim := { program := "ytadhjfdmfdgppaa", sum := "431ab2cf1f13666c050e3d8d73015fa05090efb5a9e881b6a1ea6b63142754f4", func := "glazier/glazierlaw16.AllowOwn", spec := "allowOwn", unfollowed := true, recurses := true, apart := false, narrowed := true }
def AllowOwnUptoSaid : Prop := allowOwnUptoRow.holds Try.pinned (OpenSpec.upto allowOwnSpec)

/-- 'glazierlaw26.CapsRuns', WHERE WHAT IT READS IS OF BULK AT MOST 1048576: true; the input reads as it did. -/
def capsRunsUptoRow : OpenClaim := { program := "ytadhjfdmfdgppaa", sum := "431ab2cf1f13666c050e3d8d73015fa05090efb5a9e881b6a1ea6b63142754f4", func := "glazier/glazierlaw26.CapsRuns", spec := "capsRuns", unfollowed := true, recurses := true, apart := false, narrowed := true }
def CapsRunsUptoSaid : Prop := capsRunsUptoRow.holds Try.pinned (OpenSpec.upto capsRunsSpec)

/-- 'glazierlaw16.AllowTells', WHERE WHAT IT READS IS OF BULK AT MOST 1048576: true; the input reads as it did. -/
def allowTellsUptoRow : OpenClaim := { program := "ytadhjfdmfdgppaa", sum := "431ab2cf1f13666c050e3d8d73015fa05090efb5a9e881b6a1ea6b63142754f4", func := "glazier/glazierlaw16.AllowTells", spec := "allowTells", unfollowed := true, recurses := true, apart := false, narrowed := true }
def AllowTellsUptoSaid : Prop := allowTellsUptoRow.holds Try.pinned (OpenSpec.upto allowTellsSpec)

/-- 'glazierlaw27.CodeBack', WHERE WHAT IT READS IS OF BULK AT MOST 1048576: true; the input reads as it did. -/
def codeBackUptoRow : OpenClaim := { program := "ytadhjfdmfdgppaa", sum := "431ab2cf1f13666c050e3d8d73015fa05090efb5a9e881b6a1ea6b63142754f4", func := "glazier/glazierlaw27.CodeBack", spec := "codeBack", unfollowed := true, recurses := true, apart := false, narrowed := true }
def CodeBackUptoSaid : Prop := codeBackUptoRow.holds Try.pinned (OpenSpec.upto codeBackSpec)

/-- 'glazierlaw27.CodeChecks', WHERE WHAT IT READS IS OF BULK AT MOST 1048576: true; the input reads as it did. -/
def codeChecksUptoRow : OpenClaim := { program := "ytadhjfdmfdgppaa", sum := "431ab2cf1f13666c050e3d8d73015fa05090efb5a9e881b6a1ea6b63142754f4", func := "glazier/glazierlaw27.CodeChecks", spec := "codeChecks", unfollowed := true, recurses := true, apart := false, narrowed := true }
def CodeChecksUptoSaid : Prop := codeChecksUptoRow.holds Try.pinned (OpenSpec.upto codeChecksSpec)

/-- 'glazierlaw10.AttrsLeast', WHERE WHAT IT READS IS OF BULK AT MOST 1048576: true; the input reads as it did. -/
def attrsLeastUptoRow : OpenClaim := { program := "ytadhjfdmfdgppaa", sum := "431ab2cf1f13666c050e3d8d73015fa05090efb5a9e881b6a1ea6b63142754f4", func := "glazier/glazierlaw10.AttrsLeast", spec := "attrsLeast", unfollowed := true, recurses := true, apart := false, narrowed := true }
def AttrsLeastUptoSaid : Prop := attrsLeastUptoRow.holds Try.pinned (OpenSpec.upto attrsLeastSpec)

/-- 'glazierlaw10.AttrsTells', WHERE WHAT IT READS IS OF BULK AT MOST 1048576: true; the input reads as it did. -/
def attrsTellsUptoRow : OpenClaim := { program := "ytadhjfdmfdgppaa", sum := "431ab2cf1f13666c050e3d8d73015fa05090efb5a9e881b6a1ea6b63142754f4", func := "glazier/glazierlaw10.AttrsTells", spec := "attrsTells", unfollowed := true, recurses := true, apart := false, narrowed := true }
def AttrsTellsUptoSaid : Prop := attrsTellsUptoRow.holds Try.pinned (OpenSpec.upto attrsTellsSpec)

/-- 'glazierlaw42.UndoNobody', WHERE WHAT IT READS IS OF BULK AT MOST 1048576: true; the input reads as it did. -/
def undoNobodyUptoRow : OpenClaim := { program := "ytadhjfdmfdgppaa", sum := "431ab2cf1f13666c050e3d8d73015fa05090efb5a9e881b6a1ea6b63142754f4", func := "glazier/glazierlaw42.UndoNobody", spec := "undoNobody", inPlace := ["maps.clone"], apart := false, narrowed := true }
def UndoNobodyUptoSaid : Prop := undoNobodyUptoRow.holds Try.pinned (OpenSpec.upto undoNobodySpec)

end Rows
end Go.Proofs.Ytadhjfdmfdgppaa
