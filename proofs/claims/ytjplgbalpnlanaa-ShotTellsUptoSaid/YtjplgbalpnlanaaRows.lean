/-
  NARROWER THAN 'FOR EVERY INPUT', by the rows' own cells (each row's printed sentence says how): OutlineTells: loops.
  DERIVED. THE GIVEN ROWS OF THIS SEAT. 14 by the template 'for every input the law returns true; each argument reads behind the call as it read before'; 0 by the template 'total and deterministic' (their statements: YtjplgbalpnlanaaTotals.lean).
  GIVEN WITH THE SEED: the statements are not yours to turn. If you find one false, say at which input.
  Laid BY PROGRAM, IN A SANDBOX (cutbox-rows.mjs): the forced cells as the released guide's own fill.sh prints them over the translation c19935eebd7e353d… (all of the seat's roots in one cut). By AI agents, Wed Nov 11 2026. No macro, syntax, notation, axiom, sorry.
-/
import Derived.Test.YtjplgbalpnlanaaChecked
import GoSem.Claim
import GoSem.ClaimJoined
import GoSem.ClaimMapViews
import Derived.JoinedTies
import Derived.KernelRfl
namespace Go.Proofs.Ytjplgbalpnlanaa
/- THE CELL 'sum', in the pinned program and in every row, IS THE sha256 OF THE DUMP (.gsa) THAT YtjplgbalpnlanaaProg.lean LOADS. Nothing in Lean hashes anything: it is a label: what it is worth is what the hold of that sum in a sandbox is worth. -/
noncomputable def Try.pinned : Pinned := { name := "ytjplgbalpnlanaa", sum := "c19935eebd7e353d3ffe29686e8e3ef7c222e30c37ba44a9f56ad23b361ef0bd", checked := Try.checked }
namespace Rows
def none {H : Type} : Left H := { results := [], args := [] }

/-- 'glazierlaw14.BuildTells': WHATEVER THE INPUT: true; the input reads as it did. -/
def buildTellsSpec : ChangeSpec := { name := "buildTells", fn := fun _ => fun
  | [d] => { results := [.lit (.bool true)], args := [d] }
  | _ => none }
def buildTellsRow : OpenClaim := { program := "ytjplgbalpnlanaa", sum := "c19935eebd7e353d3ffe29686e8e3ef7c222e30c37ba44a9f56ad23b361ef0bd", func := "glazier/glazierlaw14.BuildTells", spec := "buildTells", unfollowed := true, recurses := true, apart := false }
def BuildTellsSaid : Prop := buildTellsRow.holds Try.pinned (OpenSpec.ofChange buildTellsSpec)

/-- ITS FALSE NEIGHBOUR: 'it returns false'. Refute it at one input. -/
def buildTellsWrong : ChangeSpec := { name := "buildTells", fn := fun _ => fun
  | [d] => { results := [.lit (.bool false)], args := [d] }
  | _ => none }
def BuildTellsWrongFalsely : Prop := buildTellsRow.holds Try.pinned (OpenSpec.ofChange buildTellsWrong)

/-- 'glazierlaw36.OutlineTells': WHATEVER THE INPUT: true; the input reads as it did. -/
def outlineTellsSpec : ChangeSpec := { name := "outlineTells", fn := fun _ => fun
  | [d] => { results := [.lit (.bool true)], args := [d] }
  | _ => none }
def outlineTellsRow : OpenClaim := { program := "ytjplgbalpnlanaa", sum := "c19935eebd7e353d3ffe29686e8e3ef7c222e30c37ba44a9f56ad23b361ef0bd", func := "glazier/glazierlaw36.OutlineTells", spec := "outlineTells", inPlace := ["internal/abi.NoEscape"], unfollowed := true, recurses := true, loops := true, apart := false }
def OutlineTellsSaid : Prop := outlineTellsRow.holds Try.pinned (OpenSpec.ofChange outlineTellsSpec)

/-- ITS FALSE NEIGHBOUR: 'it returns false'. Refute it at one input. -/
def outlineTellsWrong : ChangeSpec := { name := "outlineTells", fn := fun _ => fun
  | [d] => { results := [.lit (.bool false)], args := [d] }
  | _ => none }
def OutlineTellsWrongFalsely : Prop := outlineTellsRow.holds Try.pinned (OpenSpec.ofChange outlineTellsWrong)

/-- 'glazierlaw14.BuildAll': WHATEVER THE INPUT: true; the input reads as it did. -/
def buildAllSpec : ChangeSpec := { name := "buildAll", fn := fun _ => fun
  | [d] => { results := [.lit (.bool true)], args := [d] }
  | _ => none }
def buildAllRow : OpenClaim := { program := "ytjplgbalpnlanaa", sum := "c19935eebd7e353d3ffe29686e8e3ef7c222e30c37ba44a9f56ad23b361ef0bd", func := "glazier/glazierlaw14.BuildAll", spec := "buildAll", unfollowed := true, recurses := true, apart := false }
def BuildAllSaid : Prop := buildAllRow.holds Try.pinned (OpenSpec.ofChange buildAllSpec)

/-- ITS FALSE NEIGHBOUR: 'it returns false'. Refute it at one input. -/
def buildAllWrong : ChangeSpec := { name := "buildAll", fn := fun _ => fun
  | [d] => { results := [.lit (.bool false)], args := [d] }
  | _ => none }
def BuildAllWrongFalsely : Prop := buildAllRow.holds Try.pinned (OpenSpec.ofChange buildAllWrong)

/-- 'glazierlaw20.DomHooks': WHATEVER THE INPUT: true; the input reads as it did. -/
def domHooksSpec : ChangeSpec := { name := "domHooks", fn := fun _ => fun
  | [d1, d2] => { results := [.lit (.bool true)], args := [d1, d2] }
  | _ => none }
def domHooksRow : OpenClaim := { program := "ytjplgbalpnlanaa", sum := "c19935eebd7e353d3ffe29686e8e3ef7c222e30c37ba44a9f56ad23b361ef0bd", func := "glazier/glazierlaw20.DomHooks", spec := "domHooks", inPlace := ["slices.overlaps[int]"], unfollowed := true, recurses := true, apart := false }
def DomHooksSaid : Prop := domHooksRow.holds Try.pinned (OpenSpec.ofChange domHooksSpec)

/-- ITS FALSE NEIGHBOUR: 'it returns false'. Refute it at one input. -/
def domHooksWrong : ChangeSpec := { name := "domHooks", fn := fun _ => fun
  | [d1, d2] => { results := [.lit (.bool false)], args := [d1, d2] }
  | _ => none }
def DomHooksWrongFalsely : Prop := domHooksRow.holds Try.pinned (OpenSpec.ofChange domHooksWrong)

/-- 'glazierlaw21.ShotTells': WHATEVER THE INPUT: true; the input reads as it did. -/
def shotTellsSpec : ChangeSpec := { name := "shotTells", fn := fun _ => fun
  | [d1, d2, d3] => { results := [.lit (.bool true)], args := [d1, d2, d3] }
  | _ => none }
def shotTellsRow : OpenClaim := { program := "ytjplgbalpnlanaa", sum := "c19935eebd7e353d3ffe29686e8e3ef7c222e30c37ba44a9f56ad23b361ef0bd", func := "glazier/glazierlaw21.ShotTells", spec := "shotTells", inPlace := ["slices.overlaps[int]"], unfollowed := true, recurses := true, apart := false }
def ShotTellsSaid : Prop := shotTellsRow.holds Try.pinned (OpenSpec.ofChange shotTellsSpec)

/-- ITS FALSE NEIGHBOUR: 'it returns false'. Refute it at one input. -/
def shotTellsWrong : ChangeSpec := { name := "shotTells", fn := fun _ => fun
  | [d1, d2, d3] => { results := [.lit (.bool false)], args := [d1, d2, d3] }
  | _ => none }
def ShotTellsWrongFalsely : Prop := shotTellsRow.holds Try.pinned (OpenSpec.ofChange shotTellsWrong)

/-- 'glazierlaw42.UndoRuns': WHATEVER THE INPUT: true; the input reads as it did. -/
def undoRunsSpec : ChangeSpec := { name := "undoRuns", fn := fun _ => fun
  | [d1, d2] => { results := [.lit (.bool true)], args := [d1, d2] }
  | _ => none }
def undoRunsRow : OpenClaim := { program := "ytjplgbalpnlanaa", sum := "c19935eebd7e353d3ffe29686e8e3ef7c222e30c37ba44a9f56ad23b361ef0bd", func := "glazier/glazierlaw42.UndoRuns", spec := "undoRuns", inPlace := ["maps.clone", "slices.overlaps[int]"], recurses := true, apart := false }
def UndoRunsSaid : Prop := undoRunsRow.holds Try.pinned (OpenSpec.ofChange undoRunsSpec)

/-- ITS FALSE NEIGHBOUR: 'it returns false'. Refute it at one input. -/
def undoRunsWrong : ChangeSpec := { name := "undoRuns", fn := fun _ => fun
  | [d1, d2] => { results := [.lit (.bool false)], args := [d1, d2] }
  | _ => none }
def UndoRunsWrongFalsely : Prop := undoRunsRow.holds Try.pinned (OpenSpec.ofChange undoRunsWrong)

/-- 'glazierlaw29.RouteTells': WHATEVER THE INPUT: true; the input reads as it did. -/
def routeTellsSpec : ChangeSpec := { name := "routeTells", fn := fun _ => fun
  | [d1, d2, d3, d4] => { results := [.lit (.bool true)], args := [d1, d2, d3, d4] }
  | _ => none }
def routeTellsRow : OpenClaim := { program := "ytjplgbalpnlanaa", sum := "c19935eebd7e353d3ffe29686e8e3ef7c222e30c37ba44a9f56ad23b361ef0bd", func := "glazier/glazierlaw29.RouteTells", spec := "routeTells", inPlace := ["slices.overlaps[int]"], unfollowed := true, recurses := true, apart := false }
def RouteTellsSaid : Prop := routeTellsRow.holds Try.pinned (OpenSpec.ofChange routeTellsSpec)

/-- ITS FALSE NEIGHBOUR: 'it returns false'. Refute it at one input. -/
def routeTellsWrong : ChangeSpec := { name := "routeTells", fn := fun _ => fun
  | [d1, d2, d3, d4] => { results := [.lit (.bool false)], args := [d1, d2, d3, d4] }
  | _ => none }
def RouteTellsWrongFalsely : Prop := routeTellsRow.holds Try.pinned (OpenSpec.ofChange routeTellsWrong)

/-- 'glazierlaw29.RouteTwice': WHATEVER THE INPUT: true; the input reads as it did. -/
def routeTwiceSpec : ChangeSpec := { name := "routeTwice", fn := fun _ => fun
  | [d1, d2, d3] => { results := [.lit (.bool true)], args := [d1, d2, d3] }
  | _ => none }
def routeTwiceRow : OpenClaim := { program := "ytjplgbalpnlanaa", sum := "c19935eebd7e353d3ffe29686e8e3ef7c222e30c37ba44a9f56ad23b361ef0bd", func := "glazier/glazierlaw29.RouteTwice", spec := "routeTwice", inPlace := ["slices.overlaps[int]"], unfollowed := true, recurses := true, apart := false }
def RouteTwiceSaid : Prop := routeTwiceRow.holds Try.pinned (OpenSpec.ofChange routeTwiceSpec)

/-- ITS FALSE NEIGHBOUR: 'it returns false'. Refute it at one input. -/
def routeTwiceWrong : ChangeSpec := { name := "routeTwice", fn := fun _ => fun
  | [d1, d2, d3] => { results := [.lit (.bool false)], args := [d1, d2, d3] }
  | _ => none }
def RouteTwiceWrongFalsely : Prop := routeTwiceRow.holds Try.pinned (OpenSpec.ofChange routeTwiceWrong)

/-- 'glazierlaw26.CapsSees': WHATEVER THE INPUT: true; the input reads as it did. -/
def capsSeesSpec : ChangeSpec := { name := "capsSees", fn := fun _ => fun
  | [d1, d2, d3, d4] => { results := [.lit (.bool true)], args := [d1, d2, d3, d4] }
  | _ => none }
def capsSeesRow : OpenClaim := { program := "ytjplgbalpnlanaa", sum := "c19935eebd7e353d3ffe29686e8e3ef7c222e30c37ba44a9f56ad23b361ef0bd", func := "glazier/glazierlaw26.CapsSees", spec := "capsSees", inPlace := ["slices.overlaps[int]"], unfollowed := true, recurses := true, apart := false }
def CapsSeesSaid : Prop := capsSeesRow.holds Try.pinned (OpenSpec.ofChange capsSeesSpec)

/-- ITS FALSE NEIGHBOUR: 'it returns false'. Refute it at one input. -/
def capsSeesWrong : ChangeSpec := { name := "capsSees", fn := fun _ => fun
  | [d1, d2, d3, d4] => { results := [.lit (.bool false)], args := [d1, d2, d3, d4] }
  | _ => none }
def CapsSeesWrongFalsely : Prop := capsSeesRow.holds Try.pinned (OpenSpec.ofChange capsSeesWrong)

/-- 'glazierlaw45.FocusTells': WHATEVER THE INPUT: true; the input reads as it did. -/
def focusTellsSpec : ChangeSpec := { name := "focusTells", fn := fun _ => fun
  | [d1, d2] => { results := [.lit (.bool true)], args := [d1, d2] }
  | _ => none }
def focusTellsRow : OpenClaim := { program := "ytjplgbalpnlanaa", sum := "c19935eebd7e353d3ffe29686e8e3ef7c222e30c37ba44a9f56ad23b361ef0bd", func := "glazier/glazierlaw45.FocusTells", spec := "focusTells", inPlace := ["slices.overlaps[int]"], unfollowed := true, recurses := true, apart := false }
def FocusTellsSaid : Prop := focusTellsRow.holds Try.pinned (OpenSpec.ofChange focusTellsSpec)

/-- ITS FALSE NEIGHBOUR: 'it returns false'. Refute it at one input. -/
def focusTellsWrong : ChangeSpec := { name := "focusTells", fn := fun _ => fun
  | [d1, d2] => { results := [.lit (.bool false)], args := [d1, d2] }
  | _ => none }
def FocusTellsWrongFalsely : Prop := focusTellsRow.holds Try.pinned (OpenSpec.ofChange focusTellsWrong)

/-- 'glazierlaw45.FocusRound': WHATEVER THE INPUT: true; the input reads as it did. -/
def focusRoundSpec : ChangeSpec := { name := "focusRound", fn := fun _ => fun
  | [d1, d2] => { results := [.lit (.bool true)], args := [d1, d2] }
  | _ => none }
def focusRoundRow : OpenClaim := { program := "ytjplgbalpnlanaa", sum := "c19935eebd7e353d3ffe29686e8e3ef7c222e30c37ba44a9f56ad23b361ef0bd", func := "glazier/glazierlaw45.FocusRound", spec := "focusRound", inPlace := ["slices.overlaps[int]"], unfollowed := true, recurses := true, apart := false }
def FocusRoundSaid : Prop := focusRoundRow.holds Try.pinned (OpenSpec.ofChange focusRoundSpec)

/-- ITS FALSE NEIGHBOUR: 'it returns false'. Refute it at one input. -/
def focusRoundWrong : ChangeSpec := { name := "focusRound", fn := fun _ => fun
  | [d1, d2] => { results := [.lit (.bool false)], args := [d1, d2] }
  | _ => none }
def FocusRoundWrongFalsely : Prop := focusRoundRow.holds Try.pinned (OpenSpec.ofChange focusRoundWrong)

/-- 'glazierlaw29.RouteClips': WHATEVER THE INPUT: true; the input reads as it did. -/
def routeClipsSpec : ChangeSpec := { name := "routeClips", fn := fun _ => fun
  | [d1, d2] => { results := [.lit (.bool true)], args := [d1, d2] }
  | _ => none }
def routeClipsRow : OpenClaim := { program := "ytjplgbalpnlanaa", sum := "c19935eebd7e353d3ffe29686e8e3ef7c222e30c37ba44a9f56ad23b361ef0bd", func := "glazier/glazierlaw29.RouteClips", spec := "routeClips", inPlace := ["slices.overlaps[int]"], unfollowed := true, recurses := true, apart := false }
def RouteClipsSaid : Prop := routeClipsRow.holds Try.pinned (OpenSpec.ofChange routeClipsSpec)

/-- ITS FALSE NEIGHBOUR: 'it returns false'. Refute it at one input. -/
def routeClipsWrong : ChangeSpec := { name := "routeClips", fn := fun _ => fun
  | [d1, d2] => { results := [.lit (.bool false)], args := [d1, d2] }
  | _ => none }
def RouteClipsWrongFalsely : Prop := routeClipsRow.holds Try.pinned (OpenSpec.ofChange routeClipsWrong)

/-- 'glazierlaw20.DomRuns': WHATEVER THE INPUT: true; the input reads as it did. -/
def domRunsSpec : ChangeSpec := { name := "domRuns", fn := fun _ => fun
  | [d] => { results := [.lit (.bool true)], args := [d] }
  | _ => none }
def domRunsRow : OpenClaim := { program := "ytjplgbalpnlanaa", sum := "c19935eebd7e353d3ffe29686e8e3ef7c222e30c37ba44a9f56ad23b361ef0bd", func := "glazier/glazierlaw20.DomRuns", spec := "domRuns", inPlace := ["slices.overlaps[int]"], unfollowed := true, recurses := true, apart := false }
def DomRunsSaid : Prop := domRunsRow.holds Try.pinned (OpenSpec.ofChange domRunsSpec)

/-- ITS FALSE NEIGHBOUR: 'it returns false'. Refute it at one input. -/
def domRunsWrong : ChangeSpec := { name := "domRuns", fn := fun _ => fun
  | [d] => { results := [.lit (.bool false)], args := [d] }
  | _ => none }
def DomRunsWrongFalsely : Prop := domRunsRow.holds Try.pinned (OpenSpec.ofChange domRunsWrong)

/-- 'glazierlaw20.DomInside': WHATEVER THE INPUT: true; the input reads as it did. -/
def domInsideSpec : ChangeSpec := { name := "domInside", fn := fun _ => fun
  | [d1, d2, d3] => { results := [.lit (.bool true)], args := [d1, d2, d3] }
  | _ => none }
def domInsideRow : OpenClaim := { program := "ytjplgbalpnlanaa", sum := "c19935eebd7e353d3ffe29686e8e3ef7c222e30c37ba44a9f56ad23b361ef0bd", func := "glazier/glazierlaw20.DomInside", spec := "domInside", inPlace := ["slices.overlaps[int]"], unfollowed := true, recurses := true, apart := false }
def DomInsideSaid : Prop := domInsideRow.holds Try.pinned (OpenSpec.ofChange domInsideSpec)

/-- ITS FALSE NEIGHBOUR: 'it returns false'. Refute it at one input. -/
def domInsideWrong : ChangeSpec := { name := "domInside", fn := fun _ => fun
  | [d1, d2, d3] => { results := [.lit (.bool false)], args := [d1, d2, d3] }
  | _ => none }
def DomInsideWrongFalsely : Prop := domInsideRow.holds Try.pinned (OpenSpec.ofChange domInsideWrong)

/- THE SECOND FORM. 'bulk': how many values and letters a reading holds, each counted each time it is reached (what is shared counts as often as it is met; a slice's spare places count too). A statement '..UptoSaid' is the law's where the arguments, and the package variables that the reading takes, are together of bulk at most 1048576: NARROWER than '..Said'. Prove '..Said' where nothing that the law and all that it calls make is longer than what came in: it says more and counts as full. Else prove '..UptoSaid'. A law counts once. -/
mutual
def uptoBulk {H : Type} : DataW H → Nat
  | .lit (.string bytes) => bytes.length + 1
  | .lit _ => 1
  | .nil => 1
  | .ptr d => uptoBulk d + 1
  | .slice elems spare => uptoBulkAll elems + uptoBulkAll spare + 1
  | .agg parts => uptoBulkAll parts + 1
  | .iface _ d => uptoBulk d + 1
  | .map entries => uptoBulkEntries entries + 1
  | .held _ => 1
def uptoBulkAll {H : Type} : List (DataW H) → Nat
  | [] => 0
  | d :: r => uptoBulk d + uptoBulkAll r
def uptoBulkEntries {H : Type} : List (Lit × DataW H) → Nat
  | [] => 0
  | x :: r => uptoBulkEntry x + uptoBulkEntries r
def uptoBulkEntry {H : Type} : Lit × DataW H → Nat
  | (.string bytes, d) => bytes.length + uptoBulk d + 1
  | (_, d) => uptoBulk d + 1
 end
def uptoSmall : (H : Type) → List (DataW H) → Bool := fun _ ds => decide (uptoBulkAll ds ≤ 1048576)
def OpenSpec.upto (s : _root_.Go.ChangeSpec) : _root_.Go.OpenSpec := { _root_.Go.OpenSpec.ofChange s with cond := some uptoSmall }

/-- 'glazierlaw14.BuildTells', WHERE WHAT IT READS IS OF BULK AT MOST 1048576: true; the input reads as it did. -/
def buildTellsUptoRow : OpenClaim := { program := "ytjplgbalpnlanaa", sum := "c19935eebd7e353d3ffe29686e8e3ef7c222e30c37ba44a9f56ad23b361ef0bd", func := "glazier/glazierlaw14.BuildTells", spec := "buildTells", unfollowed := true, recurses := true, apart := false, narrowed := true }
def BuildTellsUptoSaid : Prop := buildTellsUptoRow.holds Try.pinned (OpenSpec.upto buildTellsSpec)

/-- 'glazierlaw36.OutlineTells', WHERE WHAT IT READS IS OF BULK AT MOST 1048576: true; the input reads as it did. -/
def outlineTellsUptoRow : OpenClaim := { program := "ytjplgbalpnlanaa", sum := "c19935eebd7e353d3ffe29686e8e3ef7c222e30c37ba44a9f56ad23b361ef0bd", func := "glazier/glazierlaw36.OutlineTells", spec := "outlineTells", inPlace := ["internal/abi.NoEscape"], unfollowed := true, recurses := true, loops := true, apart := false, narrowed := true }
def OutlineTellsUptoSaid : Prop := outlineTellsUptoRow.holds Try.pinned (OpenSpec.upto outlineTellsSpec)

/-- 'glazierlaw14.BuildAll', WHERE WHAT IT READS IS OF BULK AT MOST 1048576: true; the input reads as it did. -/
def buildAllUptoRow : OpenClaim := { program := "ytjplgbalpnlanaa", sum := "c19935eebd7e353d3ffe29686e8e3ef7c222e30c37ba44a9f56ad23b361ef0bd", func := "glazier/glazierlaw14.BuildAll", spec := "buildAll", unfollowed := true, recurses := true, apart := false, narrowed := true }
def BuildAllUptoSaid : Prop := buildAllUptoRow.holds Try.pinned (OpenSpec.upto buildAllSpec)

/-- 'glazierlaw20.DomHooks', WHERE WHAT IT READS IS OF BULK AT MOST 1048576: true; the input reads as it did. -/
def domHooksUptoRow : OpenClaim := { program := "ytjplgbalpnlanaa", sum := "c19935eebd7e353d3ffe29686e8e3ef7c222e30c37ba44a9f56ad23b361ef0bd", func := "glazier/glazierlaw20.DomHooks", spec := "domHooks", inPlace := ["slices.overlaps[int]"], unfollowed := true, recurses := true, apart := false, narrowed := true }
def DomHooksUptoSaid : Prop := domHooksUptoRow.holds Try.pinned (OpenSpec.upto domHooksSpec)

/-- 'glazierlaw21.ShotTells', WHERE WHAT IT READS IS OF BULK AT MOST 1048576: true; the input reads as it did. -/
def shotTellsUptoRow : OpenClaim := { program := "ytjplgbalpnlanaa", sum := "c19935eebd7e353d3ffe29686e8e3ef7c222e30c37ba44a9f56ad23b361ef0bd", func := "glazier/glazierlaw21.ShotTells", spec := "shotTells", inPlace := ["slices.overlaps[int]"], unfollowed := true, recurses := true, apart := false, narrowed := true }
def ShotTellsUptoSaid : Prop := shotTellsUptoRow.holds Try.pinned (OpenSpec.upto shotTellsSpec)

/-- 'glazierlaw42.UndoRuns', WHERE WHAT IT READS IS OF BULK AT MOST 1048576: true; the input reads as it did. -/
def undoRunsUptoRow : OpenClaim := { program := "ytjplgbalpnlanaa", sum := "c19935eebd7e353d3ffe29686e8e3ef7c222e30c37ba44a9f56ad23b361ef0bd", func := "glazier/glazierlaw42.UndoRuns", spec := "undoRuns", inPlace := ["maps.clone", "slices.overlaps[int]"], recurses := true, apart := false, narrowed := true }
def UndoRunsUptoSaid : Prop := undoRunsUptoRow.holds Try.pinned (OpenSpec.upto undoRunsSpec)

/-- 'glazierlaw29.RouteTells', WHERE WHAT IT READS IS OF BULK AT MOST 1048576: true; the input reads as it did. -/
def routeTellsUptoRow : OpenClaim := { program := "ytjplgbalpnlanaa", sum := "c19935eebd7e353d3ffe29686e8e3ef7c222e30c37ba44a9f56ad23b361ef0bd", func := "glazier/glazierlaw29.RouteTells", spec := "routeTells", inPlace := ["slices.overlaps[int]"], unfollowed := true, recurses := true, apart := false, narrowed := true }
def RouteTellsUptoSaid : Prop := routeTellsUptoRow.holds Try.pinned (OpenSpec.upto routeTellsSpec)

/-- 'glazierlaw29.RouteTwice', WHERE WHAT IT READS IS OF BULK AT MOST 1048576: true; the input reads as it did. -/
def routeTwiceUptoRow : OpenClaim := { program := "ytjplgbalpnlanaa", sum := "c19935eebd7e353d3ffe29686e8e3ef7c222e30c37ba44a9f56ad23b361ef0bd", func := "glazier/glazierlaw29.RouteTwice", spec := "routeTwice", inPlace := ["slices.overlaps[int]"], unfollowed := true, recurses := true, apart := false, narrowed := true }
def RouteTwiceUptoSaid : Prop := routeTwiceUptoRow.holds Try.pinned (OpenSpec.upto routeTwiceSpec)

/-- 'glazierlaw26.CapsSees', WHERE WHAT IT READS IS OF BULK AT MOST 1048576: true; the input reads as it did. -/
def capsSeesUptoRow : OpenClaim := { program := "ytjplgbalpnlanaa", sum := "c19935eebd7e353d3ffe29686e8e3ef7c222e30c37ba44a9f56ad23b361ef0bd", func := "glazier/glazierlaw26.CapsSees", spec := "capsSees", inPlace := ["slices.overlaps[int]"], unfollowed := true, recurses := true, apart := false, narrowed := true }
def CapsSeesUptoSaid : Prop := capsSeesUptoRow.holds Try.pinned (OpenSpec.upto capsSeesSpec)

/-- 'glazierlaw45.FocusTells', WHERE WHAT IT READS IS OF BULK AT MOST 1048576: true; the input reads as it did. -/
def focusTellsUptoRow : OpenClaim := { program := "ytjplgbalpnlanaa", sum := "c19935eebd7e353d3ffe29686e8e3ef7c222e30c37ba44a9f56ad23b361ef0bd", func := "glazier/glazierlaw45.FocusTells", spec := "focusTells", inPlace := ["slices.overlaps[int]"], unfollowed := true, recurses := true, apart := false, narrowed := true }
def FocusTellsUptoSaid : Prop := focusTellsUptoRow.holds Try.pinned (OpenSpec.upto focusTellsSpec)

/-- 'glazierlaw45.FocusRound', WHERE WHAT IT READS IS OF BULK AT MOST 1048576: true; the input reads as it did. -/
def focusRoundUptoRow : OpenClaim := { program := "ytjplgbalpnlanaa", sum := "c19935eebd7e353d3ffe29686e8e3ef7c222e30c37ba44a9f56ad23b361ef0bd", func := "glazier/glazierlaw45.FocusRound", spec := "focusRound", inPlace := ["slices.overlaps[int]"], unfollowed := true, recurses := true, apart := false, narrowed := true }
def FocusRoundUptoSaid : Prop := focusRoundUptoRow.holds Try.pinned (OpenSpec.upto focusRoundSpec)

/-- 'glazierlaw29.RouteClips', WHERE WHAT IT READS IS OF BULK AT MOST 1048576: true; the input reads as it did. -/
def routeClipsUptoRow : OpenClaim := { program := "ytjplgbalpnlanaa", sum := "c19935eebd7e353d3ffe29686e8e3ef7c222e30c37ba44a9f56ad23b361ef0bd", func := "glazier/glazierlaw29.RouteClips", spec := "routeClips", inPlace := ["slices.overlaps[int]"], unfollowed := true, recurses := true, apart := false, narrowed := true }
def RouteClipsUptoSaid : Prop := routeClipsUptoRow.holds Try.pinned (OpenSpec.upto routeClipsSpec)

/-- 'glazierlaw20.DomRuns', WHERE WHAT IT READS IS OF BULK AT MOST 1048576: true; the input reads as it did. -/
def domRunsUptoRow : OpenClaim := { program := "ytjplgbalpnlanaa", sum := "c19935eebd7e353d3ffe29686e8e3ef7c222e30c37ba44a9f56ad23b361ef0bd", func := "glazier/glazierlaw20.DomRuns", spec := "domRuns", inPlace := ["slices.overlaps[int]"], unfollowed := true, recurses := true, apart := false, narrowed := true }
def DomRunsUptoSaid : Prop := domRunsUptoRow.holds Try.pinned (OpenSpec.upto domRunsSpec)

/-- 'glazierlaw20.DomInside', WHERE WHAT IT READS IS OF BULK AT MOST 1048576: true; the input reads as it did. -/
def domInsideUptoRow : OpenClaim := { program := "ytjplgbalpnlanaa", sum := "c19935eebd7e353d3ffe29686e8e3ef7c222e30c37ba44a9f56ad23b361ef0bd", func := "glazier/glazierlaw20.DomInside", spec := "domInside", inPlace := ["slices.overlaps[int]"], unfollowed := true, recurses := true, apart := false, narrowed := true }
def DomInsideUptoSaid : Prop := domInsideUptoRow.holds Try.pinned (OpenSpec.upto domInsideSpec)

end Rows
end Go.Proofs.Ytjplgbalpnlanaa
