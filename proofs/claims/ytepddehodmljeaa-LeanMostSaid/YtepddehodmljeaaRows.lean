/-
  No cell of these rows narrows 'for every input' (looked for: loops, veiled, ifaces, maps, wideKeys, modest, calm, conditions, laid).
  DERIVED. THE GIVEN ROWS OF THIS SEAT. 31 by the template 'for every input the law returns true; each argument reads behind the call as it read before'; 0 by the template 'total and deterministic' (their statements: YtepddehodmljeaaTotals.lean).
  GIVEN WITH THE SEED: the statements are not yours to turn. If you find one false, say at which input.
  Laid BY PROGRAM, IN A SANDBOX (cutbox-rows.mjs): the forced cells as the released guide's own fill.sh prints them over the translation df38774d1cffa137… (all of the seat's roots in one cut). By AI agents, Wed Nov 11 2026. No macro, syntax, notation, axiom, sorry.
-/
import Derived.Test.YtepddehodmljeaaChecked
import GoSem.Claim
import GoSem.ClaimJoined
import GoSem.ClaimMapViews
import Derived.JoinedTies
import Derived.KernelRfl
namespace Go.Proofs.Ytepddehodmljeaa
/- THE CELL 'sum', in the pinned program and in every row, IS THE sha256 OF THE DUMP (.gsa) THAT YtepddehodmljeaaProg.lean LOADS. Nothing in Lean hashes anything: it is a label: what it is worth is what the hold of that sum in a sandbox is worth. -/
noncomputable def Try.pinned : Pinned := { name := "ytepddehodmljeaa", sum := "df38774d1cffa137bb3e86b5c9fa5192fe118118c77688a50342090e799e9cd0", checked := Try.checked }
namespace Rows
def none {H : Type} : Left H := { results := [], args := [] }

/-- 'hasplaw.SubTells': WHATEVER THE INPUT: true; the input reads as it did. -/
def subTellsSpec : ChangeSpec := { name := "subTells", fn := fun _ => fun
  | [d1, d2] => { results := [.lit (.bool true)], args := [d1, d2] }
  | _ => none }
def subTellsRow : OpenClaim := { program := "ytepddehodmljeaa", sum := "df38774d1cffa137bb3e86b5c9fa5192fe118118c77688a50342090e799e9cd0", func := "hasp/hasplaw.SubTells", spec := "subTells", unfollowed := true, recurses := true, plainKeys := false, apart := false }
def SubTellsSaid : Prop := subTellsRow.holds Try.pinned (OpenSpec.ofChange subTellsSpec)

/-- ITS FALSE NEIGHBOUR: 'it returns false'. Refute it at one input. -/
def subTellsWrong : ChangeSpec := { name := "subTells", fn := fun _ => fun
  | [d1, d2] => { results := [.lit (.bool false)], args := [d1, d2] }
  | _ => none }
def SubTellsWrongFalsely : Prop := subTellsRow.holds Try.pinned (OpenSpec.ofChange subTellsWrong)

/-- 'hasplaw.SubAfter': WHATEVER THE INPUT: true; the input reads as it did. -/
def subAfterSpec : ChangeSpec := { name := "subAfter", fn := fun _ => fun
  | [d1, d2, d3] => { results := [.lit (.bool true)], args := [d1, d2, d3] }
  | _ => none }
def subAfterRow : OpenClaim := { program := "ytepddehodmljeaa", sum := "df38774d1cffa137bb3e86b5c9fa5192fe118118c77688a50342090e799e9cd0", func := "hasp/hasplaw.SubAfter", spec := "subAfter", unfollowed := true, recurses := true, plainKeys := false, apart := false }
def SubAfterSaid : Prop := subAfterRow.holds Try.pinned (OpenSpec.ofChange subAfterSpec)

/-- ITS FALSE NEIGHBOUR: 'it returns false'. Refute it at one input. -/
def subAfterWrong : ChangeSpec := { name := "subAfter", fn := fun _ => fun
  | [d1, d2, d3] => { results := [.lit (.bool false)], args := [d1, d2, d3] }
  | _ => none }
def SubAfterWrongFalsely : Prop := subAfterRow.holds Try.pinned (OpenSpec.ofChange subAfterWrong)

/-- 'hasplaw.SubTrue': WHATEVER THE INPUT: true; the input reads as it did. -/
def subTrueSpec : ChangeSpec := { name := "subTrue", fn := fun _ => fun
  | [d1, d2, d3] => { results := [.lit (.bool true)], args := [d1, d2, d3] }
  | _ => none }
def subTrueRow : OpenClaim := { program := "ytepddehodmljeaa", sum := "df38774d1cffa137bb3e86b5c9fa5192fe118118c77688a50342090e799e9cd0", func := "hasp/hasplaw.SubTrue", spec := "subTrue", unfollowed := true, recurses := true, plainKeys := false, apart := false }
def SubTrueSaid : Prop := subTrueRow.holds Try.pinned (OpenSpec.ofChange subTrueSpec)

/-- ITS FALSE NEIGHBOUR: 'it returns false'. Refute it at one input. -/
def subTrueWrong : ChangeSpec := { name := "subTrue", fn := fun _ => fun
  | [d1, d2, d3] => { results := [.lit (.bool false)], args := [d1, d2, d3] }
  | _ => none }
def SubTrueWrongFalsely : Prop := subTrueRow.holds Try.pinned (OpenSpec.ofChange subTrueWrong)

/-- 'hasplaw.MatchTells': WHATEVER THE INPUT: true; the input reads as it did. -/
def matchTellsSpec : ChangeSpec := { name := "matchTells", fn := fun _ => fun
  | [d1, d2] => { results := [.lit (.bool true)], args := [d1, d2] }
  | _ => none }
def matchTellsRow : OpenClaim := { program := "ytepddehodmljeaa", sum := "df38774d1cffa137bb3e86b5c9fa5192fe118118c77688a50342090e799e9cd0", func := "hasp/hasplaw.MatchTells", spec := "matchTells", unfollowed := true, recurses := true, plainKeys := false, apart := false }
def MatchTellsSaid : Prop := matchTellsRow.holds Try.pinned (OpenSpec.ofChange matchTellsSpec)

/-- ITS FALSE NEIGHBOUR: 'it returns false'. Refute it at one input. -/
def matchTellsWrong : ChangeSpec := { name := "matchTells", fn := fun _ => fun
  | [d1, d2] => { results := [.lit (.bool false)], args := [d1, d2] }
  | _ => none }
def MatchTellsWrongFalsely : Prop := matchTellsRow.holds Try.pinned (OpenSpec.ofChange matchTellsWrong)

/-- 'hasplaw.MatchOver': WHATEVER THE INPUT: true; the input reads as it did. -/
def matchOverSpec : ChangeSpec := { name := "matchOver", fn := fun _ => fun
  | [d1, d2] => { results := [.lit (.bool true)], args := [d1, d2] }
  | _ => none }
def matchOverRow : OpenClaim := { program := "ytepddehodmljeaa", sum := "df38774d1cffa137bb3e86b5c9fa5192fe118118c77688a50342090e799e9cd0", func := "hasp/hasplaw.MatchOver", spec := "matchOver", unfollowed := true, recurses := true, plainKeys := false, apart := false }
def MatchOverSaid : Prop := matchOverRow.holds Try.pinned (OpenSpec.ofChange matchOverSpec)

/-- ITS FALSE NEIGHBOUR: 'it returns false'. Refute it at one input. -/
def matchOverWrong : ChangeSpec := { name := "matchOver", fn := fun _ => fun
  | [d1, d2] => { results := [.lit (.bool false)], args := [d1, d2] }
  | _ => none }
def MatchOverWrongFalsely : Prop := matchOverRow.holds Try.pinned (OpenSpec.ofChange matchOverWrong)

/-- 'hasplaw.TermTells': WHATEVER THE INPUT: true; the input reads as it did. -/
def termTellsSpec : ChangeSpec := { name := "termTells", fn := fun _ => fun
  | [d1, d2] => { results := [.lit (.bool true)], args := [d1, d2] }
  | _ => none }
def termTellsRow : OpenClaim := { program := "ytepddehodmljeaa", sum := "df38774d1cffa137bb3e86b5c9fa5192fe118118c77688a50342090e799e9cd0", func := "hasp/hasplaw.TermTells", spec := "termTells", unfollowed := true, recurses := true, plainKeys := false, apart := false }
def TermTellsSaid : Prop := termTellsRow.holds Try.pinned (OpenSpec.ofChange termTellsSpec)

/-- ITS FALSE NEIGHBOUR: 'it returns false'. Refute it at one input. -/
def termTellsWrong : ChangeSpec := { name := "termTells", fn := fun _ => fun
  | [d1, d2] => { results := [.lit (.bool false)], args := [d1, d2] }
  | _ => none }
def TermTellsWrongFalsely : Prop := termTellsRow.holds Try.pinned (OpenSpec.ofChange termTellsWrong)

/-- 'hasplaw.TermPuts': WHATEVER THE INPUT: true; the input reads as it did. -/
def termPutsSpec : ChangeSpec := { name := "termPuts", fn := fun _ => fun
  | [d1, d2, d3] => { results := [.lit (.bool true)], args := [d1, d2, d3] }
  | _ => none }
def termPutsRow : OpenClaim := { program := "ytepddehodmljeaa", sum := "df38774d1cffa137bb3e86b5c9fa5192fe118118c77688a50342090e799e9cd0", func := "hasp/hasplaw.TermPuts", spec := "termPuts", unfollowed := true, recurses := true, plainKeys := false, apart := false }
def TermPutsSaid : Prop := termPutsRow.holds Try.pinned (OpenSpec.ofChange termPutsSpec)

/-- ITS FALSE NEIGHBOUR: 'it returns false'. Refute it at one input. -/
def termPutsWrong : ChangeSpec := { name := "termPuts", fn := fun _ => fun
  | [d1, d2, d3] => { results := [.lit (.bool false)], args := [d1, d2, d3] }
  | _ => none }
def TermPutsWrongFalsely : Prop := termPutsRow.holds Try.pinned (OpenSpec.ofChange termPutsWrong)

/-- 'hasplaw.CloseKeeps': WHATEVER THE INPUT: true; the input reads as it did. -/
def closeKeepsSpec : ChangeSpec := { name := "closeKeeps", fn := fun _ => fun
  | [d1, d2, d3, d4] => { results := [.lit (.bool true)], args := [d1, d2, d3, d4] }
  | _ => none }
def closeKeepsRow : OpenClaim := { program := "ytepddehodmljeaa", sum := "df38774d1cffa137bb3e86b5c9fa5192fe118118c77688a50342090e799e9cd0", func := "hasp/hasplaw.CloseKeeps", spec := "closeKeeps", unfollowed := true, recurses := true, plainKeys := false, apart := false }
def CloseKeepsSaid : Prop := closeKeepsRow.holds Try.pinned (OpenSpec.ofChange closeKeepsSpec)

/-- ITS FALSE NEIGHBOUR: 'it returns false'. Refute it at one input. -/
def closeKeepsWrong : ChangeSpec := { name := "closeKeeps", fn := fun _ => fun
  | [d1, d2, d3, d4] => { results := [.lit (.bool false)], args := [d1, d2, d3, d4] }
  | _ => none }
def CloseKeepsWrongFalsely : Prop := closeKeepsRow.holds Try.pinned (OpenSpec.ofChange closeKeepsWrong)

/-- 'hasplaw.TermTrue': WHATEVER THE INPUT: true; the input reads as it did. -/
def termTrueSpec : ChangeSpec := { name := "termTrue", fn := fun _ => fun
  | [d1, d2, d3] => { results := [.lit (.bool true)], args := [d1, d2, d3] }
  | _ => none }
def termTrueRow : OpenClaim := { program := "ytepddehodmljeaa", sum := "df38774d1cffa137bb3e86b5c9fa5192fe118118c77688a50342090e799e9cd0", func := "hasp/hasplaw.TermTrue", spec := "termTrue", unfollowed := true, recurses := true, plainKeys := false, apart := false }
def TermTrueSaid : Prop := termTrueRow.holds Try.pinned (OpenSpec.ofChange termTrueSpec)

/-- ITS FALSE NEIGHBOUR: 'it returns false'. Refute it at one input. -/
def termTrueWrong : ChangeSpec := { name := "termTrue", fn := fun _ => fun
  | [d1, d2, d3] => { results := [.lit (.bool false)], args := [d1, d2, d3] }
  | _ => none }
def TermTrueWrongFalsely : Prop := termTrueRow.holds Try.pinned (OpenSpec.ofChange termTrueWrong)

/-- 'hasplaw.OrderTells': WHATEVER THE INPUT: true; the input reads as it did. -/
def orderTellsSpec : ChangeSpec := { name := "orderTells", fn := fun _ => fun
  | [d1, d2, d3] => { results := [.lit (.bool true)], args := [d1, d2, d3] }
  | _ => none }
def orderTellsRow : OpenClaim := { program := "ytepddehodmljeaa", sum := "df38774d1cffa137bb3e86b5c9fa5192fe118118c77688a50342090e799e9cd0", func := "hasp/hasplaw.OrderTells", spec := "orderTells", unfollowed := true, recurses := true, plainKeys := false, apart := false }
def OrderTellsSaid : Prop := orderTellsRow.holds Try.pinned (OpenSpec.ofChange orderTellsSpec)

/-- ITS FALSE NEIGHBOUR: 'it returns false'. Refute it at one input. -/
def orderTellsWrong : ChangeSpec := { name := "orderTells", fn := fun _ => fun
  | [d1, d2, d3] => { results := [.lit (.bool false)], args := [d1, d2, d3] }
  | _ => none }
def OrderTellsWrongFalsely : Prop := orderTellsRow.holds Try.pinned (OpenSpec.ofChange orderTellsWrong)

/-- 'hasplaw.CloseTrue': WHATEVER THE INPUT: true; the input reads as it did. -/
def closeTrueSpec : ChangeSpec := { name := "closeTrue", fn := fun _ => fun
  | [d1, d2, d3] => { results := [.lit (.bool true)], args := [d1, d2, d3] }
  | _ => none }
def closeTrueRow : OpenClaim := { program := "ytepddehodmljeaa", sum := "df38774d1cffa137bb3e86b5c9fa5192fe118118c77688a50342090e799e9cd0", func := "hasp/hasplaw.CloseTrue", spec := "closeTrue", unfollowed := true, recurses := true, plainKeys := false, apart := false }
def CloseTrueSaid : Prop := closeTrueRow.holds Try.pinned (OpenSpec.ofChange closeTrueSpec)

/-- ITS FALSE NEIGHBOUR: 'it returns false'. Refute it at one input. -/
def closeTrueWrong : ChangeSpec := { name := "closeTrue", fn := fun _ => fun
  | [d1, d2, d3] => { results := [.lit (.bool false)], args := [d1, d2, d3] }
  | _ => none }
def CloseTrueWrongFalsely : Prop := closeTrueRow.holds Try.pinned (OpenSpec.ofChange closeTrueWrong)

/-- 'hasplaw.MatchTrue': WHATEVER THE INPUT: true; the input reads as it did. -/
def matchTrueSpec : ChangeSpec := { name := "matchTrue", fn := fun _ => fun
  | [d1, d2, d3] => { results := [.lit (.bool true)], args := [d1, d2, d3] }
  | _ => none }
def matchTrueRow : OpenClaim := { program := "ytepddehodmljeaa", sum := "df38774d1cffa137bb3e86b5c9fa5192fe118118c77688a50342090e799e9cd0", func := "hasp/hasplaw.MatchTrue", spec := "matchTrue", unfollowed := true, recurses := true, plainKeys := false, apart := false }
def MatchTrueSaid : Prop := matchTrueRow.holds Try.pinned (OpenSpec.ofChange matchTrueSpec)

/-- ITS FALSE NEIGHBOUR: 'it returns false'. Refute it at one input. -/
def matchTrueWrong : ChangeSpec := { name := "matchTrue", fn := fun _ => fun
  | [d1, d2, d3] => { results := [.lit (.bool false)], args := [d1, d2, d3] }
  | _ => none }
def MatchTrueWrongFalsely : Prop := matchTrueRow.holds Try.pinned (OpenSpec.ofChange matchTrueWrong)

/-- 'hasplaw.OrderTrue': WHATEVER THE INPUT: true; the input reads as it did. -/
def orderTrueSpec : ChangeSpec := { name := "orderTrue", fn := fun _ => fun
  | [d1, d2, d3, d4, d5] => { results := [.lit (.bool true)], args := [d1, d2, d3, d4, d5] }
  | _ => none }
def orderTrueRow : OpenClaim := { program := "ytepddehodmljeaa", sum := "df38774d1cffa137bb3e86b5c9fa5192fe118118c77688a50342090e799e9cd0", func := "hasp/hasplaw.OrderTrue", spec := "orderTrue", unfollowed := true, recurses := true, plainKeys := false, apart := false }
def OrderTrueSaid : Prop := orderTrueRow.holds Try.pinned (OpenSpec.ofChange orderTrueSpec)

/-- ITS FALSE NEIGHBOUR: 'it returns false'. Refute it at one input. -/
def orderTrueWrong : ChangeSpec := { name := "orderTrue", fn := fun _ => fun
  | [d1, d2, d3, d4, d5] => { results := [.lit (.bool false)], args := [d1, d2, d3, d4, d5] }
  | _ => none }
def OrderTrueWrongFalsely : Prop := orderTrueRow.holds Try.pinned (OpenSpec.ofChange orderTrueWrong)

/-- 'hasplaw.TextShows': WHATEVER THE INPUT: true; the input reads as it did. -/
def textShowsSpec : ChangeSpec := { name := "textShows", fn := fun _ => fun
  | [d1, d2] => { results := [.lit (.bool true)], args := [d1, d2] }
  | _ => none }
def textShowsRow : OpenClaim := { program := "ytepddehodmljeaa", sum := "df38774d1cffa137bb3e86b5c9fa5192fe118118c77688a50342090e799e9cd0", func := "hasp/hasplaw.TextShows", spec := "textShows", inPlace := ["internal/abi.NoEscape", "internal/bytealg.MakeNoZero", "internal/bytealg.IndexByteString"], unfollowed := true, recurses := true, plainKeys := false, apart := false }
def TextShowsSaid : Prop := textShowsRow.holds Try.pinned (OpenSpec.ofChange textShowsSpec)

/-- ITS FALSE NEIGHBOUR: 'it returns false'. Refute it at one input. -/
def textShowsWrong : ChangeSpec := { name := "textShows", fn := fun _ => fun
  | [d1, d2] => { results := [.lit (.bool false)], args := [d1, d2] }
  | _ => none }
def TextShowsWrongFalsely : Prop := textShowsRow.holds Try.pinned (OpenSpec.ofChange textShowsWrong)

/-- 'hasplaw.TextBack': WHATEVER THE INPUT: true; the input reads as it did. -/
def textBackSpec : ChangeSpec := { name := "textBack", fn := fun _ => fun
  | [d1, d2] => { results := [.lit (.bool true)], args := [d1, d2] }
  | _ => none }
def textBackRow : OpenClaim := { program := "ytepddehodmljeaa", sum := "df38774d1cffa137bb3e86b5c9fa5192fe118118c77688a50342090e799e9cd0", func := "hasp/hasplaw.TextBack", spec := "textBack", inPlace := ["internal/abi.NoEscape", "internal/bytealg.MakeNoZero", "internal/bytealg.IndexByteString"], unfollowed := true, recurses := true, plainKeys := false, apart := false }
def TextBackSaid : Prop := textBackRow.holds Try.pinned (OpenSpec.ofChange textBackSpec)

/-- ITS FALSE NEIGHBOUR: 'it returns false'. Refute it at one input. -/
def textBackWrong : ChangeSpec := { name := "textBack", fn := fun _ => fun
  | [d1, d2] => { results := [.lit (.bool false)], args := [d1, d2] }
  | _ => none }
def TextBackWrongFalsely : Prop := textBackRow.holds Try.pinned (OpenSpec.ofChange textBackWrong)

/-- 'hasplaw.UnifyTrue': WHATEVER THE INPUT: true; the input reads as it did. -/
def unifyTrueSpec : ChangeSpec := { name := "unifyTrue", fn := fun _ => fun
  | [d1, d2] => { results := [.lit (.bool true)], args := [d1, d2] }
  | _ => none }
def unifyTrueRow : OpenClaim := { program := "ytepddehodmljeaa", sum := "df38774d1cffa137bb3e86b5c9fa5192fe118118c77688a50342090e799e9cd0", func := "hasp/hasplaw.UnifyTrue", spec := "unifyTrue", unfollowed := true, recurses := true, plainKeys := false, apart := false }
def UnifyTrueSaid : Prop := unifyTrueRow.holds Try.pinned (OpenSpec.ofChange unifyTrueSpec)

/-- ITS FALSE NEIGHBOUR: 'it returns false'. Refute it at one input. -/
def unifyTrueWrong : ChangeSpec := { name := "unifyTrue", fn := fun _ => fun
  | [d1, d2] => { results := [.lit (.bool false)], args := [d1, d2] }
  | _ => none }
def UnifyTrueWrongFalsely : Prop := unifyTrueRow.holds Try.pinned (OpenSpec.ofChange unifyTrueWrong)

/-- 'hasplaw.UnifyMost': WHATEVER THE INPUT: true; the input reads as it did. -/
def unifyMostSpec : ChangeSpec := { name := "unifyMost", fn := fun _ => fun
  | [d1, d2, d3] => { results := [.lit (.bool true)], args := [d1, d2, d3] }
  | _ => none }
def unifyMostRow : OpenClaim := { program := "ytepddehodmljeaa", sum := "df38774d1cffa137bb3e86b5c9fa5192fe118118c77688a50342090e799e9cd0", func := "hasp/hasplaw.UnifyMost", spec := "unifyMost", unfollowed := true, recurses := true, plainKeys := false, apart := false }
def UnifyMostSaid : Prop := unifyMostRow.holds Try.pinned (OpenSpec.ofChange unifyMostSpec)

/-- ITS FALSE NEIGHBOUR: 'it returns false'. Refute it at one input. -/
def unifyMostWrong : ChangeSpec := { name := "unifyMost", fn := fun _ => fun
  | [d1, d2, d3] => { results := [.lit (.bool false)], args := [d1, d2, d3] }
  | _ => none }
def UnifyMostWrongFalsely : Prop := unifyMostRow.holds Try.pinned (OpenSpec.ofChange unifyMostWrong)

/-- 'hasplaw.OrderKeeps': WHATEVER THE INPUT: true; the input reads as it did. -/
def orderKeepsSpec : ChangeSpec := { name := "orderKeeps", fn := fun _ => fun
  | [d1, d2, d3, d4, d5, d6] => { results := [.lit (.bool true)], args := [d1, d2, d3, d4, d5, d6] }
  | _ => none }
def orderKeepsRow : OpenClaim := { program := "ytepddehodmljeaa", sum := "df38774d1cffa137bb3e86b5c9fa5192fe118118c77688a50342090e799e9cd0", func := "hasp/hasplaw.OrderKeeps", spec := "orderKeeps", unfollowed := true, recurses := true, plainKeys := false, apart := false }
def OrderKeepsSaid : Prop := orderKeepsRow.holds Try.pinned (OpenSpec.ofChange orderKeepsSpec)

/-- ITS FALSE NEIGHBOUR: 'it returns false'. Refute it at one input. -/
def orderKeepsWrong : ChangeSpec := { name := "orderKeeps", fn := fun _ => fun
  | [d1, d2, d3, d4, d5, d6] => { results := [.lit (.bool false)], args := [d1, d2, d3, d4, d5, d6] }
  | _ => none }
def OrderKeepsWrongFalsely : Prop := orderKeepsRow.holds Try.pinned (OpenSpec.ofChange orderKeepsWrong)

/-- 'hasplaw.NormForms': WHATEVER THE INPUT: true; the input reads as it did. -/
def normFormsSpec : ChangeSpec := { name := "normForms", fn := fun _ => fun
  | [d1, d2] => { results := [.lit (.bool true)], args := [d1, d2] }
  | _ => none }
def normFormsRow : OpenClaim := { program := "ytepddehodmljeaa", sum := "df38774d1cffa137bb3e86b5c9fa5192fe118118c77688a50342090e799e9cd0", func := "hasp/hasplaw.NormForms", spec := "normForms", unfollowed := true, recurses := true, plainKeys := false, apart := false }
def NormFormsSaid : Prop := normFormsRow.holds Try.pinned (OpenSpec.ofChange normFormsSpec)

/-- ITS FALSE NEIGHBOUR: 'it returns false'. Refute it at one input. -/
def normFormsWrong : ChangeSpec := { name := "normForms", fn := fun _ => fun
  | [d1, d2] => { results := [.lit (.bool false)], args := [d1, d2] }
  | _ => none }
def NormFormsWrongFalsely : Prop := normFormsRow.holds Try.pinned (OpenSpec.ofChange normFormsWrong)

/-- 'hasplaw.NormTrue': WHATEVER THE INPUT: true; the input reads as it did. -/
def normTrueSpec : ChangeSpec := { name := "normTrue", fn := fun _ => fun
  | [d1, d2] => { results := [.lit (.bool true)], args := [d1, d2] }
  | _ => none }
def normTrueRow : OpenClaim := { program := "ytepddehodmljeaa", sum := "df38774d1cffa137bb3e86b5c9fa5192fe118118c77688a50342090e799e9cd0", func := "hasp/hasplaw.NormTrue", spec := "normTrue", unfollowed := true, recurses := true, plainKeys := false, apart := false }
def NormTrueSaid : Prop := normTrueRow.holds Try.pinned (OpenSpec.ofChange normTrueSpec)

/-- ITS FALSE NEIGHBOUR: 'it returns false'. Refute it at one input. -/
def normTrueWrong : ChangeSpec := { name := "normTrue", fn := fun _ => fun
  | [d1, d2] => { results := [.lit (.bool false)], args := [d1, d2] }
  | _ => none }
def NormTrueWrongFalsely : Prop := normTrueRow.holds Try.pinned (OpenSpec.ofChange normTrueWrong)

/-- 'hasplaw.NormModel': WHATEVER THE INPUT: true; the input reads as it did. -/
def normModelSpec : ChangeSpec := { name := "normModel", fn := fun _ => fun
  | [d1, d2, d3] => { results := [.lit (.bool true)], args := [d1, d2, d3] }
  | _ => none }
def normModelRow : OpenClaim := { program := "ytepddehodmljeaa", sum := "df38774d1cffa137bb3e86b5c9fa5192fe118118c77688a50342090e799e9cd0", func := "hasp/hasplaw.NormModel", spec := "normModel", unfollowed := true, recurses := true, plainKeys := false, apart := false }
def NormModelSaid : Prop := normModelRow.holds Try.pinned (OpenSpec.ofChange normModelSpec)

/-- ITS FALSE NEIGHBOUR: 'it returns false'. Refute it at one input. -/
def normModelWrong : ChangeSpec := { name := "normModel", fn := fun _ => fun
  | [d1, d2, d3] => { results := [.lit (.bool false)], args := [d1, d2, d3] }
  | _ => none }
def NormModelWrongFalsely : Prop := normModelRow.holds Try.pinned (OpenSpec.ofChange normModelWrong)

/-- 'hasplaw.RulesTells': WHATEVER THE INPUT: true; the input reads as it did. -/
def rulesTellsSpec : ChangeSpec := { name := "rulesTells", fn := fun _ => fun
  | [d1, d2] => { results := [.lit (.bool true)], args := [d1, d2] }
  | _ => none }
def rulesTellsRow : OpenClaim := { program := "ytepddehodmljeaa", sum := "df38774d1cffa137bb3e86b5c9fa5192fe118118c77688a50342090e799e9cd0", func := "hasp/hasplaw.RulesTells", spec := "rulesTells", unfollowed := true, recurses := true, plainKeys := false, apart := false }
def RulesTellsSaid : Prop := rulesTellsRow.holds Try.pinned (OpenSpec.ofChange rulesTellsSpec)

/-- ITS FALSE NEIGHBOUR: 'it returns false'. Refute it at one input. -/
def rulesTellsWrong : ChangeSpec := { name := "rulesTells", fn := fun _ => fun
  | [d1, d2] => { results := [.lit (.bool false)], args := [d1, d2] }
  | _ => none }
def RulesTellsWrongFalsely : Prop := rulesTellsRow.holds Try.pinned (OpenSpec.ofChange rulesTellsWrong)

/-- 'hasplaw.RulesSteps': WHATEVER THE INPUT: true; the input reads as it did. -/
def rulesStepsSpec : ChangeSpec := { name := "rulesSteps", fn := fun _ => fun
  | [d1, d2] => { results := [.lit (.bool true)], args := [d1, d2] }
  | _ => none }
def rulesStepsRow : OpenClaim := { program := "ytepddehodmljeaa", sum := "df38774d1cffa137bb3e86b5c9fa5192fe118118c77688a50342090e799e9cd0", func := "hasp/hasplaw.RulesSteps", spec := "rulesSteps", unfollowed := true, recurses := true, plainKeys := false, apart := false }
def RulesStepsSaid : Prop := rulesStepsRow.holds Try.pinned (OpenSpec.ofChange rulesStepsSpec)

/-- ITS FALSE NEIGHBOUR: 'it returns false'. Refute it at one input. -/
def rulesStepsWrong : ChangeSpec := { name := "rulesSteps", fn := fun _ => fun
  | [d1, d2] => { results := [.lit (.bool false)], args := [d1, d2] }
  | _ => none }
def RulesStepsWrongFalsely : Prop := rulesStepsRow.holds Try.pinned (OpenSpec.ofChange rulesStepsWrong)

/-- 'hasplaw.PairsModel': WHATEVER THE INPUT: true; the input reads as it did. -/
def pairsModelSpec : ChangeSpec := { name := "pairsModel", fn := fun _ => fun
  | [d1, d2, d3, d4] => { results := [.lit (.bool true)], args := [d1, d2, d3, d4] }
  | _ => none }
def pairsModelRow : OpenClaim := { program := "ytepddehodmljeaa", sum := "df38774d1cffa137bb3e86b5c9fa5192fe118118c77688a50342090e799e9cd0", func := "hasp/hasplaw.PairsModel", spec := "pairsModel", unfollowed := true, recurses := true, plainKeys := false, apart := false }
def PairsModelSaid : Prop := pairsModelRow.holds Try.pinned (OpenSpec.ofChange pairsModelSpec)

/-- ITS FALSE NEIGHBOUR: 'it returns false'. Refute it at one input. -/
def pairsModelWrong : ChangeSpec := { name := "pairsModel", fn := fun _ => fun
  | [d1, d2, d3, d4] => { results := [.lit (.bool false)], args := [d1, d2, d3, d4] }
  | _ => none }
def PairsModelWrongFalsely : Prop := pairsModelRow.holds Try.pinned (OpenSpec.ofChange pairsModelWrong)

/-- 'hasplaw.RulesTrue': WHATEVER THE INPUT: true; the input reads as it did. -/
def rulesTrueSpec : ChangeSpec := { name := "rulesTrue", fn := fun _ => fun
  | [d1, d2, d3, d4] => { results := [.lit (.bool true)], args := [d1, d2, d3, d4] }
  | _ => none }
def rulesTrueRow : OpenClaim := { program := "ytepddehodmljeaa", sum := "df38774d1cffa137bb3e86b5c9fa5192fe118118c77688a50342090e799e9cd0", func := "hasp/hasplaw.RulesTrue", spec := "rulesTrue", unfollowed := true, recurses := true, plainKeys := false, apart := false }
def RulesTrueSaid : Prop := rulesTrueRow.holds Try.pinned (OpenSpec.ofChange rulesTrueSpec)

/-- ITS FALSE NEIGHBOUR: 'it returns false'. Refute it at one input. -/
def rulesTrueWrong : ChangeSpec := { name := "rulesTrue", fn := fun _ => fun
  | [d1, d2, d3, d4] => { results := [.lit (.bool false)], args := [d1, d2, d3, d4] }
  | _ => none }
def RulesTrueWrongFalsely : Prop := rulesTrueRow.holds Try.pinned (OpenSpec.ofChange rulesTrueWrong)

/-- 'hasplaw.NormBelow': WHATEVER THE INPUT: true; the input reads as it did. -/
def normBelowSpec : ChangeSpec := { name := "normBelow", fn := fun _ => fun
  | [d1, d2, d3] => { results := [.lit (.bool true)], args := [d1, d2, d3] }
  | _ => none }
def normBelowRow : OpenClaim := { program := "ytepddehodmljeaa", sum := "df38774d1cffa137bb3e86b5c9fa5192fe118118c77688a50342090e799e9cd0", func := "hasp/hasplaw.NormBelow", spec := "normBelow", unfollowed := true, recurses := true, plainKeys := false, apart := false }
def NormBelowSaid : Prop := normBelowRow.holds Try.pinned (OpenSpec.ofChange normBelowSpec)

/-- ITS FALSE NEIGHBOUR: 'it returns false'. Refute it at one input. -/
def normBelowWrong : ChangeSpec := { name := "normBelow", fn := fun _ => fun
  | [d1, d2, d3] => { results := [.lit (.bool false)], args := [d1, d2, d3] }
  | _ => none }
def NormBelowWrongFalsely : Prop := normBelowRow.holds Try.pinned (OpenSpec.ofChange normBelowWrong)

/-- 'hasplaw.JoinTrue': WHATEVER THE INPUT: true; the input reads as it did. -/
def joinTrueSpec : ChangeSpec := { name := "joinTrue", fn := fun _ => fun
  | [d1, d2, d3, d4] => { results := [.lit (.bool true)], args := [d1, d2, d3, d4] }
  | _ => none }
def joinTrueRow : OpenClaim := { program := "ytepddehodmljeaa", sum := "df38774d1cffa137bb3e86b5c9fa5192fe118118c77688a50342090e799e9cd0", func := "hasp/hasplaw.JoinTrue", spec := "joinTrue", unfollowed := true, recurses := true, plainKeys := false, apart := false }
def JoinTrueSaid : Prop := joinTrueRow.holds Try.pinned (OpenSpec.ofChange joinTrueSpec)

/-- ITS FALSE NEIGHBOUR: 'it returns false'. Refute it at one input. -/
def joinTrueWrong : ChangeSpec := { name := "joinTrue", fn := fun _ => fun
  | [d1, d2, d3, d4] => { results := [.lit (.bool false)], args := [d1, d2, d3, d4] }
  | _ => none }
def JoinTrueWrongFalsely : Prop := joinTrueRow.holds Try.pinned (OpenSpec.ofChange joinTrueWrong)

/-- 'hasplaw.LeanTrue': WHATEVER THE INPUT: true; the input reads as it did. -/
def leanTrueSpec : ChangeSpec := { name := "leanTrue", fn := fun _ => fun
  | [d1, d2, d3] => { results := [.lit (.bool true)], args := [d1, d2, d3] }
  | _ => none }
def leanTrueRow : OpenClaim := { program := "ytepddehodmljeaa", sum := "df38774d1cffa137bb3e86b5c9fa5192fe118118c77688a50342090e799e9cd0", func := "hasp/hasplaw.LeanTrue", spec := "leanTrue", unfollowed := true, recurses := true, plainKeys := false, apart := false }
def LeanTrueSaid : Prop := leanTrueRow.holds Try.pinned (OpenSpec.ofChange leanTrueSpec)

/-- ITS FALSE NEIGHBOUR: 'it returns false'. Refute it at one input. -/
def leanTrueWrong : ChangeSpec := { name := "leanTrue", fn := fun _ => fun
  | [d1, d2, d3] => { results := [.lit (.bool false)], args := [d1, d2, d3] }
  | _ => none }
def LeanTrueWrongFalsely : Prop := leanTrueRow.holds Try.pinned (OpenSpec.ofChange leanTrueWrong)

/-- 'hasplaw.LeanMost': WHATEVER THE INPUT: true; the input reads as it did. -/
def leanMostSpec : ChangeSpec := { name := "leanMost", fn := fun _ => fun
  | [d1, d2, d3] => { results := [.lit (.bool true)], args := [d1, d2, d3] }
  | _ => none }
def leanMostRow : OpenClaim := { program := "ytepddehodmljeaa", sum := "df38774d1cffa137bb3e86b5c9fa5192fe118118c77688a50342090e799e9cd0", func := "hasp/hasplaw.LeanMost", spec := "leanMost", unfollowed := true, recurses := true, plainKeys := false, apart := false }
def LeanMostSaid : Prop := leanMostRow.holds Try.pinned (OpenSpec.ofChange leanMostSpec)

/-- ITS FALSE NEIGHBOUR: 'it returns false'. Refute it at one input. -/
def leanMostWrong : ChangeSpec := { name := "leanMost", fn := fun _ => fun
  | [d1, d2, d3] => { results := [.lit (.bool false)], args := [d1, d2, d3] }
  | _ => none }
def LeanMostWrongFalsely : Prop := leanMostRow.holds Try.pinned (OpenSpec.ofChange leanMostWrong)

/-- 'hasplaw.JoinSame': WHATEVER THE INPUT: true; the input reads as it did. -/
def joinSameSpec : ChangeSpec := { name := "joinSame", fn := fun _ => fun
  | [d1, d2, d3, d4] => { results := [.lit (.bool true)], args := [d1, d2, d3, d4] }
  | _ => none }
def joinSameRow : OpenClaim := { program := "ytepddehodmljeaa", sum := "df38774d1cffa137bb3e86b5c9fa5192fe118118c77688a50342090e799e9cd0", func := "hasp/hasplaw.JoinSame", spec := "joinSame", unfollowed := true, recurses := true, plainKeys := false, apart := false }
def JoinSameSaid : Prop := joinSameRow.holds Try.pinned (OpenSpec.ofChange joinSameSpec)

/-- ITS FALSE NEIGHBOUR: 'it returns false'. Refute it at one input. -/
def joinSameWrong : ChangeSpec := { name := "joinSame", fn := fun _ => fun
  | [d1, d2, d3, d4] => { results := [.lit (.bool false)], args := [d1, d2, d3, d4] }
  | _ => none }
def JoinSameWrongFalsely : Prop := joinSameRow.holds Try.pinned (OpenSpec.ofChange joinSameWrong)

/-- 'hasplaw.CloseSound': WHATEVER THE INPUT: true; the input reads as it did. -/
def closeSoundSpec : ChangeSpec := { name := "closeSound", fn := fun _ => fun
  | [d1, d2, d3] => { results := [.lit (.bool true)], args := [d1, d2, d3] }
  | _ => none }
def closeSoundRow : OpenClaim := { program := "ytepddehodmljeaa", sum := "df38774d1cffa137bb3e86b5c9fa5192fe118118c77688a50342090e799e9cd0", func := "hasp/hasplaw.CloseSound", spec := "closeSound", unfollowed := true, recurses := true, plainKeys := false, apart := false }
def CloseSoundSaid : Prop := closeSoundRow.holds Try.pinned (OpenSpec.ofChange closeSoundSpec)

/-- ITS FALSE NEIGHBOUR: 'it returns false'. Refute it at one input. -/
def closeSoundWrong : ChangeSpec := { name := "closeSound", fn := fun _ => fun
  | [d1, d2, d3] => { results := [.lit (.bool false)], args := [d1, d2, d3] }
  | _ => none }
def CloseSoundWrongFalsely : Prop := closeSoundRow.holds Try.pinned (OpenSpec.ofChange closeSoundWrong)

/- THE SECOND FORM. 'bulk': how many values and letters a reading holds, each counted each time it is reached (what is shared counts as often as it is met; a slice's spare places count too). A statement '..UptoSaid' is the law's where the arguments, and the package variables that the reading takes, are together of bulk at most 1048576: NARROWER than '..Said'. Prove '..Said' where nothing that the law and all that it calls make is longer than what came in: it says more and counts as full. Else prove '..UptoSaid'. A law counts once. -/
mutual
def uptoBulk {H : Type} : DataW H → Nat
  | .lit (.string bytes) => bytes.length + 1
  | .lit _ => 1
  | .nil => 1
  | .ptr d => uptoBulk d + 1
  | .slice elems spare => uptoBulkAll elems + uptoBulkAll spare + 1
  | .agg parts => uptoBulkAll parts + 1
  | .iface _ d => uptoBulk d + 1
  | .map entries => uptoBulkEntries entries + 1
  | .held _ => 1
def uptoBulkAll {H : Type} : List (DataW H) → Nat
  | [] => 0
  | d :: r => uptoBulk d + uptoBulkAll r
def uptoBulkEntries {H : Type} : List (Lit × DataW H) → Nat
  | [] => 0
  | x :: r => uptoBulkEntry x + uptoBulkEntries r
def uptoBulkEntry {H : Type} : Lit × DataW H → Nat
  | (.string bytes, d) => bytes.length + uptoBulk d + 1
  | (_, d) => uptoBulk d + 1
 end
def uptoSmall : (H : Type) → List (DataW H) → Bool := fun _ ds => decide (uptoBulkAll ds ≤ 1048576)
def OpenSpec.upto (s : _root_.Go.ChangeSpec) : _root_.Go.OpenSpec := { _root_.Go.OpenSpec.ofChange s with cond := some uptoSmall }

/-- 'hasplaw.SubTells', WHERE WHAT IT READS IS OF BULK AT MOST 1048576: true; the input reads as it did. -/
def subTellsUptoRow : OpenClaim := { program := "ytepddehodmljeaa", sum := "df38774d1cffa137bb3e86b5c9fa5192fe118118c77688a50342090e799e9cd0", func := "hasp/hasplaw.SubTells", spec := "subTells", unfollowed := true, recurses := true, plainKeys := false, apart := false, narrowed := true }
def SubTellsUptoSaid : Prop := subTellsUptoRow.holds Try.pinned (OpenSpec.upto subTellsSpec)

/-- 'hasplaw.SubAfter', WHERE WHAT IT READS IS OF BULK AT MOST 1048576: true; the input reads as it did. -/
def subAfterUptoRow : OpenClaim := { program := "ytepddehodmljeaa", sum := "df38774d1cffa137bb3e86b5c9fa5192fe118118c77688a50342090e799e9cd0", func := "hasp/hasplaw.SubAfter", spec := "subAfter", unfollowed := true, recurses := true, plainKeys := false, apart := false, narrowed := true }
def SubAfterUptoSaid : Prop := subAfterUptoRow.holds Try.pinned (OpenSpec.upto subAfterSpec)

/-- 'hasplaw.SubTrue', WHERE WHAT IT READS IS OF BULK AT MOST 1048576: true; the input reads as it did. -/
def subTrueUptoRow : OpenClaim := { program := "ytepddehodmljeaa", sum := "df38774d1cffa137bb3e86b5c9fa5192fe118118c77688a50342090e799e9cd0", func := "hasp/hasplaw.SubTrue", spec := "subTrue", unfollowed := true, recurses := true, plainKeys := false, apart := false, narrowed := true }
def SubTrueUptoSaid : Prop := subTrueUptoRow.holds Try.pinned (OpenSpec.upto subTrueSpec)

/-- 'hasplaw.MatchTells', WHERE WHAT IT READS IS OF BULK AT MOST 1048576: true; the input reads as it did. -/
def matchTellsUptoRow : OpenClaim := { program := "ytepddehodmljeaa", sum := "df38774d1cffa137bb3e86b5c9fa5192fe118118c77688a50342090e799e9cd0", func := "hasp/hasplaw.MatchTells", spec := "matchTells", unfollowed := true, recurses := true, plainKeys := false, apart := false, narrowed := true }
def MatchTellsUptoSaid : Prop := matchTellsUptoRow.holds Try.pinned (OpenSpec.upto matchTellsSpec)

/-- 'hasplaw.MatchOver', WHERE WHAT IT READS IS OF BULK AT MOST 1048576: true; the input reads as it did. -/
def matchOverUptoRow : OpenClaim := { program := "ytepddehodmljeaa", sum := "df38774d1cffa137bb3e86b5c9fa5192fe118118c77688a50342090e799e9cd0", func := "hasp/hasplaw.MatchOver", spec := "matchOver", unfollowed := true, recurses := true, plainKeys := false, apart := false, narrowed := true }
def MatchOverUptoSaid : Prop := matchOverUptoRow.holds Try.pinned (OpenSpec.upto matchOverSpec)

/-- 'hasplaw.TermTells', WHERE WHAT IT READS IS OF BULK AT MOST 1048576: true; the input reads as it did. -/
def termTellsUptoRow : OpenClaim := { program := "ytepddehodmljeaa", sum := "df38774d1cffa137bb3e86b5c9fa5192fe118118c77688a50342090e799e9cd0", func := "hasp/hasplaw.TermTells", spec := "termTells", unfollowed := true, recurses := true, plainKeys := false, apart := false, narrowed := true }
def TermTellsUptoSaid : Prop := termTellsUptoRow.holds Try.pinned (OpenSpec.upto termTellsSpec)

/-- 'hasplaw.TermPuts', WHERE WHAT IT READS IS OF BULK AT MOST 1048576: true; the input reads as it did. -/
def termPutsUptoRow : OpenClaim := { program := "ytepddehodmljeaa", sum := "df38774d1cffa137bb3e86b5c9fa5192fe118118c77688a50342090e799e9cd0", func := "hasp/hasplaw.TermPuts", spec := "termPuts", unfollowed := true, recurses := true, plainKeys := false, apart := false, narrowed := true }
def TermPutsUptoSaid : Prop := termPutsUptoRow.holds Try.pinned (OpenSpec.upto termPutsSpec)

/-- 'hasplaw.CloseKeeps', WHERE WHAT IT READS IS OF BULK AT MOST 1048576: true; the input reads as it did. -/
def closeKeepsUptoRow : OpenClaim := { program := "ytepddehodmljeaa", sum := "df38774d1cffa137bb3e86b5c9fa5192fe118118c77688a50342090e799e9cd0", func := "hasp/hasplaw.CloseKeeps", spec := "closeKeeps", unfollowed := true, recurses := true, plainKeys := false, apart := false, narrowed := true }
def CloseKeepsUptoSaid : Prop := closeKeepsUptoRow.holds Try.pinned (OpenSpec.upto closeKeepsSpec)

/-- 'hasplaw.TermTrue', WHERE WHAT IT READS IS OF BULK AT MOST 1048576: true; the input reads as it did. -/
def termTrueUptoRow : OpenClaim := { program := "ytepddehodmljeaa", sum := "df38774d1cffa137bb3e86b5c9fa5192fe118118c77688a50342090e799e9cd0", func := "hasp/hasplaw.TermTrue", spec := "termTrue", unfollowed := true, recurses := true, plainKeys := false, apart := false, narrowed := true }
def TermTrueUptoSaid : Prop := termTrueUptoRow.holds Try.pinned (OpenSpec.upto termTrueSpec)

/-- 'hasplaw.OrderTells', WHERE WHAT IT READS IS OF BULK AT MOST 1048576: true; the input reads as it did. -/
def orderTellsUptoRow : OpenClaim := { program := "ytepddehodmljeaa", sum := "df38774d1cffa137bb3e86b5c9fa5192fe118118c77688a50342090e799e9cd0", func := "hasp/hasplaw.OrderTells", spec := "orderTells", unfollowed := true, recurses := true, plainKeys := false, apart := false, narrowed := true }
def OrderTellsUptoSaid : Prop := orderTellsUptoRow.holds Try.pinned (OpenSpec.upto orderTellsSpec)

/-- 'hasplaw.CloseTrue', WHERE WHAT IT READS IS OF BULK AT MOST 1048576: true; the input reads as it did. -/
def closeTrueUptoRow : OpenClaim := { program := "ytepddehodmljeaa", sum := "df38774d1cffa137bb3e86b5c9fa5192fe118118c77688a50342090e799e9cd0", func := "hasp/hasplaw.CloseTrue", spec := "closeTrue", unfollowed := true, recurses := true, plainKeys := false, apart := false, narrowed := true }
def CloseTrueUptoSaid : Prop := closeTrueUptoRow.holds Try.pinned (OpenSpec.upto closeTrueSpec)

/-- 'hasplaw.MatchTrue', WHERE WHAT IT READS IS OF BULK AT MOST 1048576: true; the input reads as it did. -/
def matchTrueUptoRow : OpenClaim := { program := "ytepddehodmljeaa", sum := "df38774d1cffa137bb3e86b5c9fa5192fe118118c77688a50342090e799e9cd0", func := "hasp/hasplaw.MatchTrue", spec := "matchTrue", unfollowed := true, recurses := true, plainKeys := false, apart := false, narrowed := true }
def MatchTrueUptoSaid : Prop := matchTrueUptoRow.holds Try.pinned (OpenSpec.upto matchTrueSpec)

/-- 'hasplaw.OrderTrue', WHERE WHAT IT READS IS OF BULK AT MOST 1048576: true; the input reads as it did. -/
def orderTrueUptoRow : OpenClaim := { program := "ytepddehodmljeaa", sum := "df38774d1cffa137bb3e86b5c9fa5192fe118118c77688a50342090e799e9cd0", func := "hasp/hasplaw.OrderTrue", spec := "orderTrue", unfollowed := true, recurses := true, plainKeys := false, apart := false, narrowed := true }
def OrderTrueUptoSaid : Prop := orderTrueUptoRow.holds Try.pinned (OpenSpec.upto orderTrueSpec)

/-- 'hasplaw.TextShows', WHERE WHAT IT READS IS OF BULK AT MOST 1048576: true; the input reads as it did. -/
def textShowsUptoRow : OpenClaim := { program := "ytepddehodmljeaa", sum := "df38774d1cffa137bb3e86b5c9fa5192fe118118c77688a50342090e799e9cd0", func := "hasp/hasplaw.TextShows", spec := "textShows", inPlace := ["internal/abi.NoEscape", "internal/bytealg.MakeNoZero", "internal/bytealg.IndexByteString"], unfollowed := true, recurses := true, plainKeys := false, apart := false, narrowed := true }
def TextShowsUptoSaid : Prop := textShowsUptoRow.holds Try.pinned (OpenSpec.upto textShowsSpec)

/-- 'hasplaw.TextBack', WHERE WHAT IT READS IS OF BULK AT MOST 1048576: true; the input reads as it did. -/
def textBackUptoRow : OpenClaim := { program := "ytepddehodmljeaa", sum := "df38774d1cffa137bb3e86b5c9fa5192fe118118c77688a50342090e799e9cd0", func := "hasp/hasplaw.TextBack", spec := "textBack", inPlace := ["internal/abi.NoEscape", "internal/bytealg.MakeNoZero", "internal/bytealg.IndexByteString"], unfollowed := true, recurses := true, plainKeys := false, apart := false, narrowed := true }
def TextBackUptoSaid : Prop := textBackUptoRow.holds Try.pinned (OpenSpec.upto textBackSpec)

/-- 'hasplaw.UnifyTrue', WHERE WHAT IT READS IS OF BULK AT MOST 1048576: true; the input reads as it did. -/
def unifyTrueUptoRow : OpenClaim := { program := "ytepddehodmljeaa", sum := "df38774d1cffa137bb3e86b5c9fa5192fe118118c77688a50342090e799e9cd0", func := "hasp/hasplaw.UnifyTrue", spec := "unifyTrue", unfollowed := true, recurses := true, plainKeys := false, apart := false, narrowed := true }
def UnifyTrueUptoSaid : Prop := unifyTrueUptoRow.holds Try.pinned (OpenSpec.upto unifyTrueSpec)

/-- 'hasplaw.UnifyMost', WHERE WHAT IT READS IS OF BULK AT MOST 1048576: true; the input reads as it did. -/
def unifyMostUptoRow : OpenClaim := { program := "ytepddehodmljeaa", sum := "df38774d1cffa137bb3e86b5c9fa5192fe118118c77688a50342090e799e9cd0", func := "hasp/hasplaw.UnifyMost", spec := "unifyMost", unfollowed := true, recurses := true, plainKeys := false, apart := false, narrowed := true }
def UnifyMostUptoSaid : Prop := unifyMostUptoRow.holds Try.pinned (OpenSpec.upto unifyMostSpec)

/-- 'hasplaw.OrderKeeps', WHERE WHAT IT READS IS OF BULK AT MOST 1048576: true; the input reads as it did. -/
def orderKeepsUptoRow : OpenClaim := { program := "ytepddehodmljeaa", sum := "df38774d1cffa137bb3e86b5c9fa5192fe118118c77688a50342090e799e9cd0", func := "hasp/hasplaw.OrderKeeps", spec := "orderKeeps", unfollowed := true, recurses := true, plainKeys := false, apart := false, narrowed := true }
def OrderKeepsUptoSaid : Prop := orderKeepsUptoRow.holds Try.pinned (OpenSpec.upto orderKeepsSpec)

/-- 'hasplaw.NormForms', WHERE WHAT IT READS IS OF BULK AT MOST 1048576: true; the input reads as it did. -/
def normFormsUptoRow : OpenClaim := { program := "ytepddehodmljeaa", sum := "df38774d1cffa137bb3e86b5c9fa5192fe118118c77688a50342090e799e9cd0", func := "hasp/hasplaw.NormForms", spec := "normForms", unfollowed := true, recurses := true, plainKeys := false, apart := false, narrowed := true }
def NormFormsUptoSaid : Prop := normFormsUptoRow.holds Try.pinned (OpenSpec.upto normFormsSpec)

/-- 'hasplaw.NormTrue', WHERE WHAT IT READS IS OF BULK AT MOST 1048576: true; the input reads as it did. -/
def normTrueUptoRow : OpenClaim := { program := "ytepddehodmljeaa", sum := "df38774d1cffa137bb3e86b5c9fa5192fe118118c77688a50342090e799e9cd0", func := "hasp/hasplaw.NormTrue", spec := "normTrue", unfollowed := true, recurses := true, plainKeys := false, apart := false, narrowed := true }
def NormTrueUptoSaid : Prop := normTrueUptoRow.holds Try.pinned (OpenSpec.upto normTrueSpec)

/-- 'hasplaw.NormModel', WHERE WHAT IT READS IS OF BULK AT MOST 1048576: true; the input reads as it did. -/
def normModelUptoRow : OpenClaim := { program := "ytepddehodmljeaa", sum := "df38774d1cffa137bb3e86b5c9fa5192fe118118c77688a50342090e799e9cd0", func := "hasp/hasplaw.NormModel", spec := "normModel", unfollowed := true, recurses := true, plainKeys := false, apart := false, narrowed := true }
def NormModelUptoSaid : Prop := normModelUptoRow.holds Try.pinned (OpenSpec.upto normModelSpec)

/-- 'hasplaw.RulesTells', WHERE WHAT IT READS IS OF BULK AT MOST 1048576: true; the input reads as it did. -/
def rulesTellsUptoRow : OpenClaim := { program := "ytepddehodmljeaa", sum := "df38774d1cffa137bb3e86b5c9fa5192fe118118c77688a50342090e799e9cd0", func := "hasp/hasplaw.RulesTells", spec := "rulesTells", unfollowed := true, recurses := true, plainKeys := false, apart := false, narrowed := true }
def RulesTellsUptoSaid : Prop := rulesTellsUptoRow.holds Try.pinned (OpenSpec.upto rulesTellsSpec)

/-- 'hasplaw.RulesSteps', WHERE WHAT IT READS IS OF BULK AT MOST 1048576: true; the input reads as it did. -/
def rulesStepsUptoRow : OpenClaim := { program := "ytepddehodmljeaa", sum := "df38774d1cffa137bb3e86b5c9fa5192fe118118c77688a50342090e799e9cd0", func := "hasp/hasplaw.RulesSteps", spec := "rulesSteps", unfollowed := true, recurses := true, plainKeys := false, apart := false, narrowed := true }
def RulesStepsUptoSaid : Prop := rulesStepsUptoRow.holds Try.pinned (OpenSpec.upto rulesStepsSpec)

/-- 'hasplaw.PairsModel', WHERE WHAT IT READS IS OF BULK AT MOST 1048576: true; the input reads as it did. -/
def pairsModelUptoRow : OpenClaim := { program := "ytepddehodmljeaa", sum := "df38774d1cffa137bb3e86b5c9fa5192fe118118c77688a50342090e799e9cd0", func := "hasp/hasplaw.PairsModel", spec := "pairsModel", unfollowed := true, recurses := true, plainKeys := false, apart := false, narrowed := true }
def PairsModelUptoSaid : Prop := pairsModelUptoRow.holds Try.pinned (OpenSpec.upto pairsModelSpec)

/-- 'hasplaw.RulesTrue', WHERE WHAT IT READS IS OF BULK AT MOST 1048576: true; the input reads as it did. -/
def rulesTrueUptoRow : OpenClaim := { program := "ytepddehodmljeaa", sum := "df38774d1cffa137bb3e86b5c9fa5192fe118118c77688a50342090e799e9cd0", func := "hasp/hasplaw.RulesTrue", spec := "rulesTrue", unfollowed := true, recurses := true, plainKeys := false, apart := false, narrowed := true }
def RulesTrueUptoSaid : Prop := rulesTrueUptoRow.holds Try.pinned (OpenSpec.upto rulesTrueSpec)

/-- 'hasplaw.NormBelow', WHERE WHAT IT READS IS OF BULK AT MOST 1048576: true; the input reads as it did. -/
def normBelowUptoRow : OpenClaim := { program := "ytepddehodmljeaa", sum := "df38774d1cffa137bb3e86b5c9fa5192fe118118c77688a50342090e799e9cd0", func := "hasp/hasplaw.NormBelow", spec := "normBelow", unfollowed := true, recurses := true, plainKeys := false, apart := false, narrowed := true }
def NormBelowUptoSaid : Prop := normBelowUptoRow.holds Try.pinned (OpenSpec.upto normBelowSpec)

/-- 'hasplaw.JoinTrue', WHERE WHAT IT READS IS OF BULK AT MOST 1048576: true; the input reads as it did. -/
def joinTrueUptoRow : OpenClaim := { program := "ytepddehodmljeaa", sum := "df38774d1cffa137bb3e86b5c9fa5192fe118118c77688a50342090e799e9cd0", func := "hasp/hasplaw.JoinTrue", spec := "joinTrue", unfollowed := true, recurses := true, plainKeys := false, apart := false, narrowed := true }
def JoinTrueUptoSaid : Prop := joinTrueUptoRow.holds Try.pinned (OpenSpec.upto joinTrueSpec)

/-- 'hasplaw.LeanTrue', WHERE WHAT IT READS IS OF BULK AT MOST 1048576: true; the input reads as it did. -/
def leanTrueUptoRow : OpenClaim := { program := "ytepddehodmljeaa", sum := "df38774d1cffa137bb3e86b5c9fa5192fe118118c77688a50342090e799e9cd0", func := "hasp/hasplaw.LeanTrue", spec := "leanTrue", unfollowed := true, recurses := true, plainKeys := false, apart := false, narrowed := true }
def LeanTrueUptoSaid : Prop := leanTrueUptoRow.holds Try.pinned (OpenSpec.upto leanTrueSpec)

/-- 'hasplaw.LeanMost', WHERE WHAT IT READS IS OF BULK AT MOST 1048576: true; the input reads as it did. -/
def leanMostUptoRow : OpenClaim := { program := "ytepddehodmljeaa", sum := "df38774d1cffa137bb3e86b5c9fa5192fe118118c77688a50342090e799e9cd0", func := "hasp/hasplaw.LeanMost", spec := "leanMost", unfollowed := true, recurses := true, plainKeys := false, apart := false, narrowed := true }
def LeanMostUptoSaid : Prop := leanMostUptoRow.holds Try.pinned (OpenSpec.upto leanMostSpec)

/-- 'hasplaw.JoinSame', WHERE WHAT IT READS IS OF BULK AT MOST 1048576: true; the input reads as it did. -/
def joinSameUptoRow : OpenClaim := { program := "ytepddehodmljeaa", sum := "df38774d1cffa137bb3e86b5c9fa5192fe118118c77688a50342090e799e9cd0", func := "hasp/hasplaw.JoinSame", spec := "joinSame", unfollowed := true, recurses := true, plainKeys := false, apart := false, narrowed := true }
def JoinSameUptoSaid : Prop := joinSameUptoRow.holds Try.pinned (OpenSpec.upto joinSameSpec)

/-- 'hasplaw.CloseSound', WHERE WHAT IT READS IS OF BULK AT MOST 1048576: true; the input reads as it did. -/
def closeSoundUptoRow : OpenClaim := { program := "ytepddehodmljeaa", sum := "df38774d1cffa137bb3e86b5c9fa5192fe118118c77688a50342090e799e9cd0", func := "hasp/hasplaw.CloseSound", spec := "closeSound", unfollowed := true, recurses := true, plainKeys := false, apart := false, narrowed := true }
def CloseSoundUptoSaid : Prop := closeSoundUptoRow.holds Try.pinned (OpenSpec.upto closeSoundSpec)

end Rows
end Go.Proofs.Ytepddehodmljeaa
