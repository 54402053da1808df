/-
  No cell of these rows narrows 'for every input' (looked for: loops, veiled, ifaces, maps, wideKeys, modest, calm, conditions, laid).
  DERIVED. THE GIVEN ROWS OF THIS SEAT. 6 by the template 'for every input the law returns true; each argument reads behind the call as it read before'; 0 by the template 'total and deterministic' (their statements: YtimhcdhignamiaaTotals.lean).
  GIVEN WITH THE SEED: the statements are not yours to turn. If you find one false, say at which input.
  Laid BY PROGRAM, IN A SANDBOX (cutbox-rows.mjs): the forced cells as the released guide's own fill.sh prints them over the translation 0d8b0e67e6391053… (all of the seat's roots in one cut). By AI agents, Wed Nov 11 2026. No macro, syntax, notation, axiom, sorry.
-/
import Derived.Test.YtimhcdhignamiaaChecked
import GoSem.Claim
import GoSem.ClaimJoined
import GoSem.ClaimMapViews
import Derived.JoinedTies
import Derived.KernelRfl
namespace Go.Proofs.Ytimhcdhignamiaa
/- THE CELL 'sum', in the pinned program and in every row, IS THE sha256 OF THE DUMP (.gsa) THAT YtimhcdhignamiaaProg.lean LOADS. Nothing in Lean hashes anything: it is a label: what it is worth is what the hold of that sum in a sandbox is worth. -/
noncomputable def Try.pinned : Pinned := { name := "ytimhcdhignamiaa", sum := "0d8b0e67e63910531ae248bc072a35c7d7dab2eae51957183f09c5a8e61bec62", checked := Try.checked }
namespace Rows
def none {H : Type} : Left H := { results := [], args := [] }

/-- 'glazierlaw22.MatchTells': WHATEVER THE INPUT: true; the input reads as it did. -/
def matchTellsSpec : ChangeSpec := { name := "matchTells", fn := fun _ => fun
  | [d1, d2] => { results := [.lit (.bool true)], args := [d1, d2] }
  | _ => none }
def matchTellsRow : OpenClaim := { program := "ytimhcdhignamiaa", sum := "0d8b0e67e63910531ae248bc072a35c7d7dab2eae51957183f09c5a8e61bec62", func := "glazier/glazierlaw22.MatchTells", spec := "matchTells", apart := false }
def MatchTellsSaid : Prop := matchTellsRow.holds Try.pinned (OpenSpec.ofChange matchTellsSpec)

/-- ITS FALSE NEIGHBOUR: 'it returns false'. Refute it at one input. -/
def matchTellsWrong : ChangeSpec := { name := "matchTells", fn := fun _ => fun
  | [d1, d2] => { results := [.lit (.bool false)], args := [d1, d2] }
  | _ => none }
def MatchTellsWrongFalsely : Prop := matchTellsRow.holds Try.pinned (OpenSpec.ofChange matchTellsWrong)

/-- 'glazierlaw22.MatchSame': WHATEVER THE INPUT: true; the input reads as it did. -/
def matchSameSpec : ChangeSpec := { name := "matchSame", fn := fun _ => fun
  | [d] => { results := [.lit (.bool true)], args := [d] }
  | _ => none }
def matchSameRow : OpenClaim := { program := "ytimhcdhignamiaa", sum := "0d8b0e67e63910531ae248bc072a35c7d7dab2eae51957183f09c5a8e61bec62", func := "glazier/glazierlaw22.MatchSame", spec := "matchSame", apart := false }
def MatchSameSaid : Prop := matchSameRow.holds Try.pinned (OpenSpec.ofChange matchSameSpec)

/-- ITS FALSE NEIGHBOUR: 'it returns false'. Refute it at one input. -/
def matchSameWrong : ChangeSpec := { name := "matchSame", fn := fun _ => fun
  | [d] => { results := [.lit (.bool false)], args := [d] }
  | _ => none }
def MatchSameWrongFalsely : Prop := matchSameRow.holds Try.pinned (OpenSpec.ofChange matchSameWrong)

/-- 'glazierlaw46.LayoutWraps': WHATEVER THE INPUT: true; the input reads as it did. -/
def layoutWrapsSpec : ChangeSpec := { name := "layoutWraps", fn := fun _ => fun
  | [d1, d2] => { results := [.lit (.bool true)], args := [d1, d2] }
  | _ => none }
def layoutWrapsRow : OpenClaim := { program := "ytimhcdhignamiaa", sum := "0d8b0e67e63910531ae248bc072a35c7d7dab2eae51957183f09c5a8e61bec62", func := "glazier/glazierlaw46.LayoutWraps", spec := "layoutWraps", apart := false }
def LayoutWrapsSaid : Prop := layoutWrapsRow.holds Try.pinned (OpenSpec.ofChange layoutWrapsSpec)

/-- ITS FALSE NEIGHBOUR: 'it returns false'. Refute it at one input. -/
def layoutWrapsWrong : ChangeSpec := { name := "layoutWraps", fn := fun _ => fun
  | [d1, d2] => { results := [.lit (.bool false)], args := [d1, d2] }
  | _ => none }
def LayoutWrapsWrongFalsely : Prop := layoutWrapsRow.holds Try.pinned (OpenSpec.ofChange layoutWrapsWrong)

/-- 'glazierlaw46.LayoutWords': WHATEVER THE INPUT: true; the input reads as it did. -/
def layoutWordsSpec : ChangeSpec := { name := "layoutWords", fn := fun _ => fun
  | [d1, d2] => { results := [.lit (.bool true)], args := [d1, d2] }
  | _ => none }
def layoutWordsRow : OpenClaim := { program := "ytimhcdhignamiaa", sum := "0d8b0e67e63910531ae248bc072a35c7d7dab2eae51957183f09c5a8e61bec62", func := "glazier/glazierlaw46.LayoutWords", spec := "layoutWords", apart := false }
def LayoutWordsSaid : Prop := layoutWordsRow.holds Try.pinned (OpenSpec.ofChange layoutWordsSpec)

/-- ITS FALSE NEIGHBOUR: 'it returns false'. Refute it at one input. -/
def layoutWordsWrong : ChangeSpec := { name := "layoutWords", fn := fun _ => fun
  | [d1, d2] => { results := [.lit (.bool false)], args := [d1, d2] }
  | _ => none }
def LayoutWordsWrongFalsely : Prop := layoutWordsRow.holds Try.pinned (OpenSpec.ofChange layoutWordsWrong)

/-- 'glazierlaw27.CodeJoins': WHATEVER THE INPUT: true; the input reads as it did. -/
def codeJoinsSpec : ChangeSpec := { name := "codeJoins", fn := fun _ => fun
  | [d1, d2] => { results := [.lit (.bool true)], args := [d1, d2] }
  | _ => none }
def codeJoinsRow : OpenClaim := { program := "ytimhcdhignamiaa", sum := "0d8b0e67e63910531ae248bc072a35c7d7dab2eae51957183f09c5a8e61bec62", func := "glazier/glazierlaw27.CodeJoins", spec := "codeJoins", unfollowed := true, recurses := true, apart := false }
def CodeJoinsSaid : Prop := codeJoinsRow.holds Try.pinned (OpenSpec.ofChange codeJoinsSpec)

/-- ITS FALSE NEIGHBOUR: 'it returns false'. Refute it at one input. -/
def codeJoinsWrong : ChangeSpec := { name := "codeJoins", fn := fun _ => fun
  | [d1, d2] => { results := [.lit (.bool false)], args := [d1, d2] }
  | _ => none }
def CodeJoinsWrongFalsely : Prop := codeJoinsRow.holds Try.pinned (OpenSpec.ofChange codeJoinsWrong)

/-- 'glazierlaw16.AllowOwn': WHATEVER THE INPUT: true; the input reads as it did. -/
def allowOwnSpec : ChangeSpec := { name := "allowOwn", fn := fun _ => fun
  | [d] => { results := [.lit (.bool true)], args := [d] }
  | _ => none }
def allowOwnRow : OpenClaim := { program := "ytimhcdhignamiaa", sum := "0d8b0e67e63910531ae248bc072a35c7d7dab2eae51957183f09c5a8e61bec62", func := "glazier/glazierlaw16.AllowOwn", spec := "allowOwn", unfollowed := true, recurses := true, apart := false }
def AllowOwnSaid : Prop := allowOwnRow.holds Try.pinned (OpenSpec.ofChange allowOwnSpec)

/-- ITS FALSE NEIGHBOUR: 'it returns false'. Refute it at one input. -/
def allowOwnWrong : ChangeSpec := { name := "allowOwn", fn := fun _ => fun
  | [d] => { results := [.lit (.bool false)], args := [d] }
  | _ => none }
def AllowOwnWrongFalsely : Prop := allowOwnRow.holds Try.pinned (OpenSpec.ofChange allowOwnWrong)

/- THE SECOND FORM. 'bulk': how many values and letters a reading holds, each counted each time it is reached (what is shared counts as often as it is met; a slice's spare places count too). A statement '..UptoSaid' is the law's where the arguments, and the package variables that the reading takes, are together of bulk at most 1048576: NARROWER than '..Said'. Prove '..Said' where nothing that the law and all that it calls make is longer than what came in: it says more and counts as full. Else prove '..UptoSaid'. A law counts once. -/
mutual
def uptoBulk {H : Type} : DataW H → Nat
  | .lit (.string bytes) => bytes.length + 1
  | .lit _ => 1
  | .nil => 1
  | .ptr d => uptoBulk d + 1
  | .slice elems spare => uptoBulkAll elems + uptoBulkAll spare + 1
  | .agg parts => uptoBulkAll parts + 1
  | .iface _ d => uptoBulk d + 1
  | .map entries => uptoBulkEntries entries + 1
  | .held _ => 1
def uptoBulkAll {H : Type} : List (DataW H) → Nat
  | [] => 0
  | d :: r => uptoBulk d + uptoBulkAll r
def uptoBulkEntries {H : Type} : List (Lit × DataW H) → Nat
  | [] => 0
  | x :: r => uptoBulkEntry x + uptoBulkEntries r
def uptoBulkEntry {H : Type} : Lit × DataW H → Nat
  | (.string bytes, d) => bytes.length + uptoBulk d + 1
  | (_, d) => uptoBulk d + 1
 end
def uptoSmall : (H : Type) → List (DataW H) → Bool := fun _ ds => decide (uptoBulkAll ds ≤ 1048576)
def OpenSpec.upto (s : _root_.Go.ChangeSpec) : _root_.Go.OpenSpec := { _root_.Go.OpenSpec.ofChange s with cond := some uptoSmall }

/-- 'glazierlaw22.MatchTells', WHERE WHAT IT READS IS OF BULK AT MOST 1048576: true; the input reads as it did. -/
def matchTellsUptoRow : OpenClaim := { program := "ytimhcdhignamiaa", sum := "0d8b0e67e63910531ae248bc072a35c7d7dab2eae51957183f09c5a8e61bec62", func := "glazier/glazierlaw22.MatchTells", spec := "matchTells", apart := false, narrowed := true }
def MatchTellsUptoSaid : Prop := matchTellsUptoRow.holds Try.pinned (OpenSpec.upto matchTellsSpec)

/-- 'glazierlaw22.MatchSame', WHERE WHAT IT READS IS OF BULK AT MOST 1048576: true; the input reads as it did. -/
def matchSameUptoRow : OpenClaim := { program := "ytimhcdhignamiaa", sum := "0d8b0e67e63910531ae248bc072a35c7d7dab2eae51957183f09c5a8e61bec62", func := "glazier/glazierlaw22.MatchSame", spec := "matchSame", apart := false, narrowed := true }
def MatchSameUptoSaid : Prop := matchSameUptoRow.holds Try.pinned (OpenSpec.upto matchSameSpec)

/-- 'glazierlaw46.LayoutWraps', WHERE WHAT IT READS IS OF BULK AT MOST 1048576: true; the input reads as it did. -/
def layoutWrapsUptoRow : OpenClaim := { program := "ytimhcdhignamiaa", sum := "0d8b0e67e63910531ae248bc072a35c7d7dab2eae51957183f09c5a8e61bec62", func := "glazier/glazierlaw46.LayoutWraps", spec := "layoutWraps", apart := false, narrowed := true }
def LayoutWrapsUptoSaid : Prop := layoutWrapsUptoRow.holds Try.pinned (OpenSpec.upto layoutWrapsSpec)

/-- 'glazierlaw46.LayoutWords', WHERE WHAT IT READS IS OF BULK AT MOST 1048576: true; the input reads as it did. -/
def layoutWordsUptoRow : OpenClaim := { program := "ytimhcdhignamiaa", sum := "0d8b0e67e63910531ae248bc072a35c7d7dab2eae51957183f09c5a8e61bec62", func := "glazier/glazierlaw46.LayoutWords", spec := "layoutWords", apart := false, narrowed := true }
def LayoutWordsUptoSaid : Prop := layoutWordsUptoRow.holds Try.pinned (OpenSpec.upto layoutWordsSpec)

/-- 'glazierlaw27.CodeJoins', WHERE WHAT IT READS IS OF BULK AT MOST 1048576: true; the input reads as it did. -/
def codeJoinsUptoRow : OpenClaim := { program := "ytimhcdhignamiaa", sum := "0d8b0e67e63910531ae248bc072a35c7d7dab2eae51957183f09c5a8e61bec62", func := "glazier/glazierlaw27.CodeJoins", spec := "codeJoins", unfollowed := true, recurses := true, apart := false, narrowed := true }
def CodeJoinsUptoSaid : Prop := codeJoinsUptoRow.holds Try.pinned (OpenSpec.upto codeJoinsSpec)

/-- 'glazierlaw16.AllowOwn', WHERE WHAT IT READS IS OF BULK AT MOST 1048576: true; the input reads as it did. -/
def allowOwnUptoRow : OpenClaim := { program := "ytimhcdhignamiaa", sum := "0d8b0e67e63910531ae248bc072a35c7d7dab2eae51957183f09c5a8e61bec62", func := "glazier/glazierlaw16.AllowOwn", spec := "allowOwn", unfollowed := true, recurses := true, apart := false, narrowed := true }
def AllowOwnUptoSaid : Prop := allowOwnUptoRow.holds Try.pinned (OpenSpec.upto allowOwnSpec)

end Rows
end Go.Proofs.Ytimhcdhignamiaa
