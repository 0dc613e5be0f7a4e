/-
  No cell of these rows narrows 'for every input' (looked for: loops, veiled, ifaces, maps, wideKeys, modest, calm, conditions, laid).
  DERIVED. THE GIVEN ROWS OF THIS SEAT. 21 by the template 'for every input the law returns true; each argument reads behind the call as it read before'; 0 by the template 'total and deterministic' (their statements: YtedckelfdkfkoaaTotals.lean).
  GIVEN WITH THE SEED: the statements are not yours to turn. If you find one false, say at which input.
  Laid BY PROGRAM, IN A SANDBOX (cutbox-rows.mjs): the forced cells as the released guide's own fill.sh prints them over the translation ccfcc5f0f2defdad… (all of the seat's roots in one cut). By AI agents, Wed Nov 11 2026. No macro, syntax, notation, axiom, sorry.
-/
import Derived.Test.YtedckelfdkfkoaaChecked
import GoSem.Claim
import GoSem.ClaimJoined
import GoSem.ClaimMapViews
import Derived.JoinedTies
import Derived.KernelRfl
namespace Go.Proofs.Ytedckelfdkfkoaa
/- THE CELL 'sum', in the pinned program and in every row, IS THE sha256 OF THE DUMP (.gsa) THAT YtedckelfdkfkoaaProg.lean LOADS. Nothing in Lean hashes anything: it is a label: what it is worth is what the hold of that sum in a sandbox is worth. -/
noncomputable def Try.pinned : Pinned := { name := "ytedckelfdkfkoaa", sum := "ccfcc5f0f2defdad522441ff0e0225af91f1d1ae58bd7b07dc149b7b539a515d", checked := Try.checked }
namespace Rows
def none {H : Type} : Left H := { results := [], args := [] }

/-- 'gessolaw04.TileCounts': WHATEVER THE INPUT: true; the input reads as it did. -/
def tileCountsSpec : ChangeSpec := { name := "tileCounts", fn := fun _ => fun
  | [d1, d2, d3] => { results := [.lit (.bool true)], args := [d1, d2, d3] }
  | _ => none }
def tileCountsRow : OpenClaim := { program := "ytedckelfdkfkoaa", sum := "ccfcc5f0f2defdad522441ff0e0225af91f1d1ae58bd7b07dc149b7b539a515d", func := "gesso/gessolaw04.TileCounts", spec := "tileCounts", unfollowed := true, recurses := true, plainKeys := false, apart := false }
def TileCountsSaid : Prop := tileCountsRow.holds Try.pinned (OpenSpec.ofChange tileCountsSpec)

/-- ITS FALSE NEIGHBOUR: 'it returns false'. Refute it at one input. -/
def tileCountsWrong : ChangeSpec := { name := "tileCounts", fn := fun _ => fun
  | [d1, d2, d3] => { results := [.lit (.bool false)], args := [d1, d2, d3] }
  | _ => none }
def TileCountsWrongFalsely : Prop := tileCountsRow.holds Try.pinned (OpenSpec.ofChange tileCountsWrong)

/-- 'gessolaw04.TileBoxes': WHATEVER THE INPUT: true; the input reads as it did. -/
def tileBoxesSpec : ChangeSpec := { name := "tileBoxes", fn := fun _ => fun
  | [d1, d2] => { results := [.lit (.bool true)], args := [d1, d2] }
  | _ => none }
def tileBoxesRow : OpenClaim := { program := "ytedckelfdkfkoaa", sum := "ccfcc5f0f2defdad522441ff0e0225af91f1d1ae58bd7b07dc149b7b539a515d", func := "gesso/gessolaw04.TileBoxes", spec := "tileBoxes", unfollowed := true, recurses := true, plainKeys := false, apart := false }
def TileBoxesSaid : Prop := tileBoxesRow.holds Try.pinned (OpenSpec.ofChange tileBoxesSpec)

/-- ITS FALSE NEIGHBOUR: 'it returns false'. Refute it at one input. -/
def tileBoxesWrong : ChangeSpec := { name := "tileBoxes", fn := fun _ => fun
  | [d1, d2] => { results := [.lit (.bool false)], args := [d1, d2] }
  | _ => none }
def TileBoxesWrongFalsely : Prop := tileBoxesRow.holds Try.pinned (OpenSpec.ofChange tileBoxesWrong)

/-- 'gessolaw04.TileMoves': WHATEVER THE INPUT: true; the input reads as it did. -/
def tileMovesSpec : ChangeSpec := { name := "tileMoves", fn := fun _ => fun
  | [d1, d2, d3] => { results := [.lit (.bool true)], args := [d1, d2, d3] }
  | _ => none }
def tileMovesRow : OpenClaim := { program := "ytedckelfdkfkoaa", sum := "ccfcc5f0f2defdad522441ff0e0225af91f1d1ae58bd7b07dc149b7b539a515d", func := "gesso/gessolaw04.TileMoves", spec := "tileMoves", unfollowed := true, recurses := true, plainKeys := false, apart := false }
def TileMovesSaid : Prop := tileMovesRow.holds Try.pinned (OpenSpec.ofChange tileMovesSpec)

/-- ITS FALSE NEIGHBOUR: 'it returns false'. Refute it at one input. -/
def tileMovesWrong : ChangeSpec := { name := "tileMoves", fn := fun _ => fun
  | [d1, d2, d3] => { results := [.lit (.bool false)], args := [d1, d2, d3] }
  | _ => none }
def TileMovesWrongFalsely : Prop := tileMovesRow.holds Try.pinned (OpenSpec.ofChange tileMovesWrong)

/-- 'gessolaw04.TileBack': WHATEVER THE INPUT: true; the input reads as it did. -/
def tileBackSpec : ChangeSpec := { name := "tileBack", fn := fun _ => fun
  | [d1, d2] => { results := [.lit (.bool true)], args := [d1, d2] }
  | _ => none }
def tileBackRow : OpenClaim := { program := "ytedckelfdkfkoaa", sum := "ccfcc5f0f2defdad522441ff0e0225af91f1d1ae58bd7b07dc149b7b539a515d", func := "gesso/gessolaw04.TileBack", spec := "tileBack", unfollowed := true, recurses := true, plainKeys := false, apart := false }
def TileBackSaid : Prop := tileBackRow.holds Try.pinned (OpenSpec.ofChange tileBackSpec)

/-- ITS FALSE NEIGHBOUR: 'it returns false'. Refute it at one input. -/
def tileBackWrong : ChangeSpec := { name := "tileBack", fn := fun _ => fun
  | [d1, d2] => { results := [.lit (.bool false)], args := [d1, d2] }
  | _ => none }
def TileBackWrongFalsely : Prop := tileBackRow.holds Try.pinned (OpenSpec.ofChange tileBackWrong)

/-- 'gessolaw04.TilePlaces': WHATEVER THE INPUT: true; the input reads as it did. -/
def tilePlacesSpec : ChangeSpec := { name := "tilePlaces", fn := fun _ => fun
  | [d1, d2, d3] => { results := [.lit (.bool true)], args := [d1, d2, d3] }
  | _ => none }
def tilePlacesRow : OpenClaim := { program := "ytedckelfdkfkoaa", sum := "ccfcc5f0f2defdad522441ff0e0225af91f1d1ae58bd7b07dc149b7b539a515d", func := "gesso/gessolaw04.TilePlaces", spec := "tilePlaces", unfollowed := true, recurses := true, plainKeys := false, apart := false }
def TilePlacesSaid : Prop := tilePlacesRow.holds Try.pinned (OpenSpec.ofChange tilePlacesSpec)

/-- ITS FALSE NEIGHBOUR: 'it returns false'. Refute it at one input. -/
def tilePlacesWrong : ChangeSpec := { name := "tilePlaces", fn := fun _ => fun
  | [d1, d2, d3] => { results := [.lit (.bool false)], args := [d1, d2, d3] }
  | _ => none }
def TilePlacesWrongFalsely : Prop := tilePlacesRow.holds Try.pinned (OpenSpec.ofChange tilePlacesWrong)

/-- 'gessolaw04.TileSums': WHATEVER THE INPUT: true; the input reads as it did. -/
def tileSumsSpec : ChangeSpec := { name := "tileSums", fn := fun _ => fun
  | [d1, d2, d3] => { results := [.lit (.bool true)], args := [d1, d2, d3] }
  | _ => none }
def tileSumsRow : OpenClaim := { program := "ytedckelfdkfkoaa", sum := "ccfcc5f0f2defdad522441ff0e0225af91f1d1ae58bd7b07dc149b7b539a515d", func := "gesso/gessolaw04.TileSums", spec := "tileSums", unfollowed := true, recurses := true, plainKeys := false, apart := false }
def TileSumsSaid : Prop := tileSumsRow.holds Try.pinned (OpenSpec.ofChange tileSumsSpec)

/-- ITS FALSE NEIGHBOUR: 'it returns false'. Refute it at one input. -/
def tileSumsWrong : ChangeSpec := { name := "tileSums", fn := fun _ => fun
  | [d1, d2, d3] => { results := [.lit (.bool false)], args := [d1, d2, d3] }
  | _ => none }
def TileSumsWrongFalsely : Prop := tileSumsRow.holds Try.pinned (OpenSpec.ofChange tileSumsWrong)

/-- 'gessolaw05.CanvasShares': WHATEVER THE INPUT: true; the input reads as it did. -/
def canvasSharesSpec : ChangeSpec := { name := "canvasShares", fn := fun _ => fun
  | [d1, d2, d3] => { results := [.lit (.bool true)], args := [d1, d2, d3] }
  | _ => none }
def canvasSharesRow : OpenClaim := { program := "ytedckelfdkfkoaa", sum := "ccfcc5f0f2defdad522441ff0e0225af91f1d1ae58bd7b07dc149b7b539a515d", func := "gesso/gessolaw05.CanvasShares", spec := "canvasShares", unfollowed := true, recurses := true, plainKeys := false, apart := false }
def CanvasSharesSaid : Prop := canvasSharesRow.holds Try.pinned (OpenSpec.ofChange canvasSharesSpec)

/-- ITS FALSE NEIGHBOUR: 'it returns false'. Refute it at one input. -/
def canvasSharesWrong : ChangeSpec := { name := "canvasShares", fn := fun _ => fun
  | [d1, d2, d3] => { results := [.lit (.bool false)], args := [d1, d2, d3] }
  | _ => none }
def CanvasSharesWrongFalsely : Prop := canvasSharesRow.holds Try.pinned (OpenSpec.ofChange canvasSharesWrong)

/-- 'gessolaw05.CanvasTells': WHATEVER THE INPUT: true; the input reads as it did. -/
def canvasTellsSpec : ChangeSpec := { name := "canvasTells", fn := fun _ => fun
  | [d1, d2] => { results := [.lit (.bool true)], args := [d1, d2] }
  | _ => none }
def canvasTellsRow : OpenClaim := { program := "ytedckelfdkfkoaa", sum := "ccfcc5f0f2defdad522441ff0e0225af91f1d1ae58bd7b07dc149b7b539a515d", func := "gesso/gessolaw05.CanvasTells", spec := "canvasTells", unfollowed := true, recurses := true, plainKeys := false, apart := false }
def CanvasTellsSaid : Prop := canvasTellsRow.holds Try.pinned (OpenSpec.ofChange canvasTellsSpec)

/-- ITS FALSE NEIGHBOUR: 'it returns false'. Refute it at one input. -/
def canvasTellsWrong : ChangeSpec := { name := "canvasTells", fn := fun _ => fun
  | [d1, d2] => { results := [.lit (.bool false)], args := [d1, d2] }
  | _ => none }
def CanvasTellsWrongFalsely : Prop := canvasTellsRow.holds Try.pinned (OpenSpec.ofChange canvasTellsWrong)

/-- 'gessolaw05.CanvasMay': WHATEVER THE INPUT: true; the input reads as it did. -/
def canvasMaySpec : ChangeSpec := { name := "canvasMay", fn := fun _ => fun
  | [d1, d2, d3] => { results := [.lit (.bool true)], args := [d1, d2, d3] }
  | _ => none }
def canvasMayRow : OpenClaim := { program := "ytedckelfdkfkoaa", sum := "ccfcc5f0f2defdad522441ff0e0225af91f1d1ae58bd7b07dc149b7b539a515d", func := "gesso/gessolaw05.CanvasMay", spec := "canvasMay", unfollowed := true, recurses := true, plainKeys := false, apart := false }
def CanvasMaySaid : Prop := canvasMayRow.holds Try.pinned (OpenSpec.ofChange canvasMaySpec)

/-- ITS FALSE NEIGHBOUR: 'it returns false'. Refute it at one input. -/
def canvasMayWrong : ChangeSpec := { name := "canvasMay", fn := fun _ => fun
  | [d1, d2, d3] => { results := [.lit (.bool false)], args := [d1, d2, d3] }
  | _ => none }
def CanvasMayWrongFalsely : Prop := canvasMayRow.holds Try.pinned (OpenSpec.ofChange canvasMayWrong)

/-- 'gessolaw05.CanvasDots': WHATEVER THE INPUT: true; the input reads as it did. -/
def canvasDotsSpec : ChangeSpec := { name := "canvasDots", fn := fun _ => fun
  | [d1, d2, d3] => { results := [.lit (.bool true)], args := [d1, d2, d3] }
  | _ => none }
def canvasDotsRow : OpenClaim := { program := "ytedckelfdkfkoaa", sum := "ccfcc5f0f2defdad522441ff0e0225af91f1d1ae58bd7b07dc149b7b539a515d", func := "gesso/gessolaw05.CanvasDots", spec := "canvasDots", unfollowed := true, recurses := true, plainKeys := false, apart := false }
def CanvasDotsSaid : Prop := canvasDotsRow.holds Try.pinned (OpenSpec.ofChange canvasDotsSpec)

/-- ITS FALSE NEIGHBOUR: 'it returns false'. Refute it at one input. -/
def canvasDotsWrong : ChangeSpec := { name := "canvasDots", fn := fun _ => fun
  | [d1, d2, d3] => { results := [.lit (.bool false)], args := [d1, d2, d3] }
  | _ => none }
def CanvasDotsWrongFalsely : Prop := canvasDotsRow.holds Try.pinned (OpenSpec.ofChange canvasDotsWrong)

/-- 'gessolaw05.CanvasBack': WHATEVER THE INPUT: true; the input reads as it did. -/
def canvasBackSpec : ChangeSpec := { name := "canvasBack", fn := fun _ => fun
  | [d1, d2] => { results := [.lit (.bool true)], args := [d1, d2] }
  | _ => none }
def canvasBackRow : OpenClaim := { program := "ytedckelfdkfkoaa", sum := "ccfcc5f0f2defdad522441ff0e0225af91f1d1ae58bd7b07dc149b7b539a515d", func := "gesso/gessolaw05.CanvasBack", spec := "canvasBack", unfollowed := true, recurses := true, plainKeys := false, apart := false }
def CanvasBackSaid : Prop := canvasBackRow.holds Try.pinned (OpenSpec.ofChange canvasBackSpec)

/-- ITS FALSE NEIGHBOUR: 'it returns false'. Refute it at one input. -/
def canvasBackWrong : ChangeSpec := { name := "canvasBack", fn := fun _ => fun
  | [d1, d2] => { results := [.lit (.bool false)], args := [d1, d2] }
  | _ => none }
def CanvasBackWrongFalsely : Prop := canvasBackRow.holds Try.pinned (OpenSpec.ofChange canvasBackWrong)

/-- 'gessolaw09.StampMakes': WHATEVER THE INPUT: true; the input reads as it did. -/
def stampMakesSpec : ChangeSpec := { name := "stampMakes", fn := fun _ => fun
  | [d1, d2, d3] => { results := [.lit (.bool true)], args := [d1, d2, d3] }
  | _ => none }
def stampMakesRow : OpenClaim := { program := "ytedckelfdkfkoaa", sum := "ccfcc5f0f2defdad522441ff0e0225af91f1d1ae58bd7b07dc149b7b539a515d", func := "gesso/gessolaw09.StampMakes", spec := "stampMakes", unfollowed := true, recurses := true, plainKeys := false, apart := false }
def StampMakesSaid : Prop := stampMakesRow.holds Try.pinned (OpenSpec.ofChange stampMakesSpec)

/-- ITS FALSE NEIGHBOUR: 'it returns false'. Refute it at one input. -/
def stampMakesWrong : ChangeSpec := { name := "stampMakes", fn := fun _ => fun
  | [d1, d2, d3] => { results := [.lit (.bool false)], args := [d1, d2, d3] }
  | _ => none }
def StampMakesWrongFalsely : Prop := stampMakesRow.holds Try.pinned (OpenSpec.ofChange stampMakesWrong)

/-- 'gessolaw09.StampBack': WHATEVER THE INPUT: true; the input reads as it did. -/
def stampBackSpec : ChangeSpec := { name := "stampBack", fn := fun _ => fun
  | [d1, d2] => { results := [.lit (.bool true)], args := [d1, d2] }
  | _ => none }
def stampBackRow : OpenClaim := { program := "ytedckelfdkfkoaa", sum := "ccfcc5f0f2defdad522441ff0e0225af91f1d1ae58bd7b07dc149b7b539a515d", func := "gesso/gessolaw09.StampBack", spec := "stampBack", unfollowed := true, recurses := true, plainKeys := false, apart := false }
def StampBackSaid : Prop := stampBackRow.holds Try.pinned (OpenSpec.ofChange stampBackSpec)

/-- ITS FALSE NEIGHBOUR: 'it returns false'. Refute it at one input. -/
def stampBackWrong : ChangeSpec := { name := "stampBack", fn := fun _ => fun
  | [d1, d2] => { results := [.lit (.bool false)], args := [d1, d2] }
  | _ => none }
def StampBackWrongFalsely : Prop := stampBackRow.holds Try.pinned (OpenSpec.ofChange stampBackWrong)

/-- 'gessolaw09.StampTurns': WHATEVER THE INPUT: true; the input reads as it did. -/
def stampTurnsSpec : ChangeSpec := { name := "stampTurns", fn := fun _ => fun
  | [d1, d2, d3] => { results := [.lit (.bool true)], args := [d1, d2, d3] }
  | _ => none }
def stampTurnsRow : OpenClaim := { program := "ytedckelfdkfkoaa", sum := "ccfcc5f0f2defdad522441ff0e0225af91f1d1ae58bd7b07dc149b7b539a515d", func := "gesso/gessolaw09.StampTurns", spec := "stampTurns", unfollowed := true, recurses := true, plainKeys := false, apart := false }
def StampTurnsSaid : Prop := stampTurnsRow.holds Try.pinned (OpenSpec.ofChange stampTurnsSpec)

/-- ITS FALSE NEIGHBOUR: 'it returns false'. Refute it at one input. -/
def stampTurnsWrong : ChangeSpec := { name := "stampTurns", fn := fun _ => fun
  | [d1, d2, d3] => { results := [.lit (.bool false)], args := [d1, d2, d3] }
  | _ => none }
def StampTurnsWrongFalsely : Prop := stampTurnsRow.holds Try.pinned (OpenSpec.ofChange stampTurnsWrong)

/-- 'gessolaw09.StampLays': WHATEVER THE INPUT: true; the input reads as it did. -/
def stampLaysSpec : ChangeSpec := { name := "stampLays", fn := fun _ => fun
  | [d1, d2, d3] => { results := [.lit (.bool true)], args := [d1, d2, d3] }
  | _ => none }
def stampLaysRow : OpenClaim := { program := "ytedckelfdkfkoaa", sum := "ccfcc5f0f2defdad522441ff0e0225af91f1d1ae58bd7b07dc149b7b539a515d", func := "gesso/gessolaw09.StampLays", spec := "stampLays", unfollowed := true, recurses := true, plainKeys := false, apart := false }
def StampLaysSaid : Prop := stampLaysRow.holds Try.pinned (OpenSpec.ofChange stampLaysSpec)

/-- ITS FALSE NEIGHBOUR: 'it returns false'. Refute it at one input. -/
def stampLaysWrong : ChangeSpec := { name := "stampLays", fn := fun _ => fun
  | [d1, d2, d3] => { results := [.lit (.bool false)], args := [d1, d2, d3] }
  | _ => none }
def StampLaysWrongFalsely : Prop := stampLaysRow.holds Try.pinned (OpenSpec.ofChange stampLaysWrong)

/-- 'gessolaw09.StampCuts': WHATEVER THE INPUT: true; the input reads as it did. -/
def stampCutsSpec : ChangeSpec := { name := "stampCuts", fn := fun _ => fun
  | [d1, d2, d3] => { results := [.lit (.bool true)], args := [d1, d2, d3] }
  | _ => none }
def stampCutsRow : OpenClaim := { program := "ytedckelfdkfkoaa", sum := "ccfcc5f0f2defdad522441ff0e0225af91f1d1ae58bd7b07dc149b7b539a515d", func := "gesso/gessolaw09.StampCuts", spec := "stampCuts", unfollowed := true, recurses := true, plainKeys := false, apart := false }
def StampCutsSaid : Prop := stampCutsRow.holds Try.pinned (OpenSpec.ofChange stampCutsSpec)

/-- ITS FALSE NEIGHBOUR: 'it returns false'. Refute it at one input. -/
def stampCutsWrong : ChangeSpec := { name := "stampCuts", fn := fun _ => fun
  | [d1, d2, d3] => { results := [.lit (.bool false)], args := [d1, d2, d3] }
  | _ => none }
def StampCutsWrongFalsely : Prop := stampCutsRow.holds Try.pinned (OpenSpec.ofChange stampCutsWrong)

/-- 'gessolaw16.MarksKeep': WHATEVER THE INPUT: true; the input reads as it did. -/
def marksKeepSpec : ChangeSpec := { name := "marksKeep", fn := fun _ => fun
  | [d] => { results := [.lit (.bool true)], args := [d] }
  | _ => none }
def marksKeepRow : OpenClaim := { program := "ytedckelfdkfkoaa", sum := "ccfcc5f0f2defdad522441ff0e0225af91f1d1ae58bd7b07dc149b7b539a515d", func := "gesso/gessolaw16.MarksKeep", spec := "marksKeep", inPlace := ["slices.overlaps[gesso/marks.Mark]"], unfollowed := true, recurses := true, plainKeys := false, apart := false }
def MarksKeepSaid : Prop := marksKeepRow.holds Try.pinned (OpenSpec.ofChange marksKeepSpec)

/-- ITS FALSE NEIGHBOUR: 'it returns false'. Refute it at one input. -/
def marksKeepWrong : ChangeSpec := { name := "marksKeep", fn := fun _ => fun
  | [d] => { results := [.lit (.bool false)], args := [d] }
  | _ => none }
def MarksKeepWrongFalsely : Prop := marksKeepRow.holds Try.pinned (OpenSpec.ofChange marksKeepWrong)

/-- 'gessolaw16.MarksParts': WHATEVER THE INPUT: true; the input reads as it did. -/
def marksPartsSpec : ChangeSpec := { name := "marksParts", fn := fun _ => fun
  | [d1, d2] => { results := [.lit (.bool true)], args := [d1, d2] }
  | _ => none }
def marksPartsRow : OpenClaim := { program := "ytedckelfdkfkoaa", sum := "ccfcc5f0f2defdad522441ff0e0225af91f1d1ae58bd7b07dc149b7b539a515d", func := "gesso/gessolaw16.MarksParts", spec := "marksParts", inPlace := ["slices.overlaps[gesso/marks.Mark]"], unfollowed := true, recurses := true, plainKeys := false, apart := false }
def MarksPartsSaid : Prop := marksPartsRow.holds Try.pinned (OpenSpec.ofChange marksPartsSpec)

/-- ITS FALSE NEIGHBOUR: 'it returns false'. Refute it at one input. -/
def marksPartsWrong : ChangeSpec := { name := "marksParts", fn := fun _ => fun
  | [d1, d2] => { results := [.lit (.bool false)], args := [d1, d2] }
  | _ => none }
def MarksPartsWrongFalsely : Prop := marksPartsRow.holds Try.pinned (OpenSpec.ofChange marksPartsWrong)

/-- 'gessolaw16.MarksDue': WHATEVER THE INPUT: true; the input reads as it did. -/
def marksDueSpec : ChangeSpec := { name := "marksDue", fn := fun _ => fun
  | [d1, d2, d3] => { results := [.lit (.bool true)], args := [d1, d2, d3] }
  | _ => none }
def marksDueRow : OpenClaim := { program := "ytedckelfdkfkoaa", sum := "ccfcc5f0f2defdad522441ff0e0225af91f1d1ae58bd7b07dc149b7b539a515d", func := "gesso/gessolaw16.MarksDue", spec := "marksDue", inPlace := ["slices.overlaps[gesso/marks.Mark]"], unfollowed := true, recurses := true, plainKeys := false, apart := false }
def MarksDueSaid : Prop := marksDueRow.holds Try.pinned (OpenSpec.ofChange marksDueSpec)

/-- ITS FALSE NEIGHBOUR: 'it returns false'. Refute it at one input. -/
def marksDueWrong : ChangeSpec := { name := "marksDue", fn := fun _ => fun
  | [d1, d2, d3] => { results := [.lit (.bool false)], args := [d1, d2, d3] }
  | _ => none }
def MarksDueWrongFalsely : Prop := marksDueRow.holds Try.pinned (OpenSpec.ofChange marksDueWrong)

/-- 'gessolaw16.MarksPuts': WHATEVER THE INPUT: true; the input reads as it did. -/
def marksPutsSpec : ChangeSpec := { name := "marksPuts", fn := fun _ => fun
  | [d1, d2] => { results := [.lit (.bool true)], args := [d1, d2] }
  | _ => none }
def marksPutsRow : OpenClaim := { program := "ytedckelfdkfkoaa", sum := "ccfcc5f0f2defdad522441ff0e0225af91f1d1ae58bd7b07dc149b7b539a515d", func := "gesso/gessolaw16.MarksPuts", spec := "marksPuts", inPlace := ["slices.overlaps[gesso/marks.Mark]"], unfollowed := true, recurses := true, plainKeys := false, apart := false }
def MarksPutsSaid : Prop := marksPutsRow.holds Try.pinned (OpenSpec.ofChange marksPutsSpec)

/-- ITS FALSE NEIGHBOUR: 'it returns false'. Refute it at one input. -/
def marksPutsWrong : ChangeSpec := { name := "marksPuts", fn := fun _ => fun
  | [d1, d2] => { results := [.lit (.bool false)], args := [d1, d2] }
  | _ => none }
def MarksPutsWrongFalsely : Prop := marksPutsRow.holds Try.pinned (OpenSpec.ofChange marksPutsWrong)

/-- 'gessolaw16.MarksTells': WHATEVER THE INPUT: true; the input reads as it did. -/
def marksTellsSpec : ChangeSpec := { name := "marksTells", fn := fun _ => fun
  | [d1, d2, d3] => { results := [.lit (.bool true)], args := [d1, d2, d3] }
  | _ => none }
def marksTellsRow : OpenClaim := { program := "ytedckelfdkfkoaa", sum := "ccfcc5f0f2defdad522441ff0e0225af91f1d1ae58bd7b07dc149b7b539a515d", func := "gesso/gessolaw16.MarksTells", spec := "marksTells", inPlace := ["slices.overlaps[gesso/marks.Mark]"], unfollowed := true, recurses := true, plainKeys := false, apart := false }
def MarksTellsSaid : Prop := marksTellsRow.holds Try.pinned (OpenSpec.ofChange marksTellsSpec)

/-- ITS FALSE NEIGHBOUR: 'it returns false'. Refute it at one input. -/
def marksTellsWrong : ChangeSpec := { name := "marksTells", fn := fun _ => fun
  | [d1, d2, d3] => { results := [.lit (.bool false)], args := [d1, d2, d3] }
  | _ => none }
def MarksTellsWrongFalsely : Prop := marksTellsRow.holds Try.pinned (OpenSpec.ofChange marksTellsWrong)

/- THE SECOND FORM. 'bulk': how many values and letters a reading holds, each counted each time it is reached (what is shared counts as often as it is met; a slice's spare places count too). A statement '..UptoSaid' is the law's where the arguments, and the package variables that the reading takes, are together of bulk at most 1048576: NARROWER than '..Said'. Prove '..Said' where nothing that the law and all that it calls make is longer than what came in: it says more and counts as full. Else prove '..UptoSaid'. A law counts once. -/
mutual
def uptoBulk {H : Type} : DataW H → Nat
  | .lit (.string bytes) => bytes.length + 1
  | .lit _ => 1
  | .nil => 1
  | .ptr d => uptoBulk d + 1
  | .slice elems spare => uptoBulkAll elems + uptoBulkAll spare + 1
  | .agg parts => uptoBulkAll parts + 1
  | .iface _ d => uptoBulk d + 1
  | .map entries => uptoBulkEntries entries + 1
  | .held _ => 1
def uptoBulkAll {H : Type} : List (DataW H) → Nat
  | [] => 0
  | d :: r => uptoBulk d + uptoBulkAll r
def uptoBulkEntries {H : Type} : List (Lit × DataW H) → Nat
  | [] => 0
  | x :: r => uptoBulkEntry x + uptoBulkEntries r
def uptoBulkEntry {H : Type} : Lit × DataW H → Nat
  | (.string bytes, d) => bytes.length + uptoBulk d + 1
  | (_, d) => uptoBulk d + 1
 end
def uptoSmall : (H : Type) → List (DataW H) → Bool := fun _ ds => decide (uptoBulkAll ds ≤ 1048576)
def OpenSpec.upto (s : _root_.Go.ChangeSpec) : _root_.Go.OpenSpec := { _root_.Go.OpenSpec.ofChange s with cond := some uptoSmall }

/-- 'gessolaw04.TileCounts', WHERE WHAT IT READS IS OF BULK AT MOST 1048576: true; the input reads as it did. -/
def tileCountsUptoRow : OpenClaim := { program := "ytedckelfdkfkoaa", sum := "ccfcc5f0f2defdad522441ff0e0225af91f1d1ae58bd7b07dc149b7b539a515d", func := "gesso/gessolaw04.TileCounts", spec := "tileCounts", unfollowed := true, recurses := true, plainKeys := false, apart := false, narrowed := true }
def TileCountsUptoSaid : Prop := tileCountsUptoRow.holds Try.pinned (OpenSpec.upto tileCountsSpec)

/-- 'gessolaw04.TileBoxes', WHERE WHAT IT READS IS OF BULK AT MOST 1048576: true; the input reads as it did. -/
def tileBoxesUptoRow : OpenClaim := { program := "ytedckelfdkfkoaa", sum := "ccfcc5f0f2defdad522441ff0e0225af91f1d1ae58bd7b07dc149b7b539a515d", func := "gesso/gessolaw04.TileBoxes", spec := "tileBoxes", unfollowed := true, recurses := true, plainKeys := false, apart := false, narrowed := true }
def TileBoxesUptoSaid : Prop := tileBoxesUptoRow.holds Try.pinned (OpenSpec.upto tileBoxesSpec)

/-- 'gessolaw04.TileMoves', WHERE WHAT IT READS IS OF BULK AT MOST 1048576: true; the input reads as it did. -/
def tileMovesUptoRow : OpenClaim := { program := "ytedckelfdkfkoaa", sum := "ccfcc5f0f2defdad522441ff0e0225af91f1d1ae58bd7b07dc149b7b539a515d", func := "gesso/gessolaw04.TileMoves", spec := "tileMoves", unfollowed := true, recurses := true, plainKeys := false, apart := false, narrowed := true }
def TileMovesUptoSaid : Prop := tileMovesUptoRow.holds Try.pinned (OpenSpec.upto tileMovesSpec)

/-- 'gessolaw04.TileBack', WHERE WHAT IT READS IS OF BULK AT MOST 1048576: true; the input reads as it did. -/
def tileBackUptoRow : OpenClaim := { program := "ytedckelfdkfkoaa", sum := "ccfcc5f0f2defdad522441ff0e0225af91f1d1ae58bd7b07dc149b7b539a515d", func := "gesso/gessolaw04.TileBack", spec := "tileBack", unfollowed := true, recurses := true, plainKeys := false, apart := false, narrowed := true }
def TileBackUptoSaid : Prop := tileBackUptoRow.holds Try.pinned (OpenSpec.upto tileBackSpec)

/-- 'gessolaw04.TilePlaces', WHERE WHAT IT READS IS OF BULK AT MOST 1048576: true; the input reads as it did. -/
def tilePlacesUptoRow : OpenClaim := { program := "ytedckelfdkfkoaa", sum := "ccfcc5f0f2defdad522441ff0e0225af91f1d1ae58bd7b07dc149b7b539a515d", func := "gesso/gessolaw04.TilePlaces", spec := "tilePlaces", unfollowed := true, recurses := true, plainKeys := false, apart := false, narrowed := true }
def TilePlacesUptoSaid : Prop := tilePlacesUptoRow.holds Try.pinned (OpenSpec.upto tilePlacesSpec)

/-- 'gessolaw04.TileSums', WHERE WHAT IT READS IS OF BULK AT MOST 1048576: true; the input reads as it did. -/
def tileSumsUptoRow : OpenClaim := { program := "ytedckelfdkfkoaa", sum := "ccfcc5f0f2defdad522441ff0e0225af91f1d1ae58bd7b07dc149b7b539a515d", func := "gesso/gessolaw04.TileSums", spec := "tileSums", unfollowed := true, recurses := true, plainKeys := false, apart := false, narrowed := true }
def TileSumsUptoSaid : Prop := tileSumsUptoRow.holds Try.pinned (OpenSpec.upto tileSumsSpec)

/-- 'gessolaw05.CanvasShares', WHERE WHAT IT READS IS OF BULK AT MOST 1048576: true; the input reads as it did. -/
def canvasSharesUptoRow : OpenClaim := { program := "ytedckelfdkfkoaa", sum := "ccfcc5f0f2defdad522441ff0e0225af91f1d1ae58bd7b07dc149b7b539a515d", func := "gesso/gessolaw05.CanvasShares", spec := "canvasShares", unfollowed := true, recurses := true, plainKeys := false, apart := false, narrowed := true }
def CanvasSharesUptoSaid : Prop := canvasSharesUptoRow.holds Try.pinned (OpenSpec.upto canvasSharesSpec)

/-- 'gessolaw05.CanvasTells', WHERE WHAT IT READS IS OF BULK AT MOST 1048576: true; the input reads as it did. -/
def canvasTellsUptoRow : OpenClaim := { program := "ytedckelfdkfkoaa", sum := "ccfcc5f0f2defdad522441ff0e0225af91f1d1ae58bd7b07dc149b7b539a515d", func := "gesso/gessolaw05.CanvasTells", spec := "canvasTells", unfollowed := true, recurses := true, plainKeys := false, apart := false, narrowed := true }
def CanvasTellsUptoSaid : Prop := canvasTellsUptoRow.holds Try.pinned (OpenSpec.upto canvasTellsSpec)

/-- 'gessolaw05.CanvasMay', WHERE WHAT IT READS IS OF BULK AT MOST 1048576: true; the input reads as it did. -/
def canvasMayUptoRow : OpenClaim := { program := "ytedckelfdkfkoaa", sum := "ccfcc5f0f2defdad522441ff0e0225af91f1d1ae58bd7b07dc149b7b539a515d", func := "gesso/gessolaw05.CanvasMay", spec := "canvasMay", unfollowed := true, recurses := true, plainKeys := false, apart := false, narrowed := true }
def CanvasMayUptoSaid : Prop := canvasMayUptoRow.holds Try.pinned (OpenSpec.upto canvasMaySpec)

/-- 'gessolaw05.CanvasDots', WHERE WHAT IT READS IS OF BULK AT MOST 1048576: true; the input reads as it did. -/
def canvasDotsUptoRow : OpenClaim := { program := "ytedckelfdkfkoaa", sum := "ccfcc5f0f2defdad522441ff0e0225af91f1d1ae58bd7b07dc149b7b539a515d", func := "gesso/gessolaw05.CanvasDots", spec := "canvasDots", unfollowed := true, recurses := true, plainKeys := false, apart := false, narrowed := true }
def CanvasDotsUptoSaid : Prop := canvasDotsUptoRow.holds Try.pinned (OpenSpec.upto canvasDotsSpec)

/-- 'gessolaw05.CanvasBack', WHERE WHAT IT READS IS OF BULK AT MOST 1048576: true; the input reads as it did. -/
def canvasBackUptoRow : OpenClaim := { program := "ytedckelfdkfkoaa", sum := "ccfcc5f0f2defdad522441ff0e0225af91f1d1ae58bd7b07dc149b7b539a515d", func := "gesso/gessolaw05.CanvasBack", spec := "canvasBack", unfollowed := true, recurses := true, plainKeys := false, apart := false, narrowed := true }
def CanvasBackUptoSaid : Prop := canvasBackUptoRow.holds Try.pinned (OpenSpec.upto canvasBackSpec)

/-- 'gessolaw09.StampMakes', WHERE WHAT IT READS IS OF BULK AT MOST 1048576: true; the input reads as it did. -/
def stampMakesUptoRow : OpenClaim := { program := "ytedckelfdkfkoaa", sum := "ccfcc5f0f2defdad522441ff0e0225af91f1d1ae58bd7b07dc149b7b539a515d", func := "gesso/gessolaw09.StampMakes", spec := "stampMakes", unfollowed := true, recurses := true, plainKeys := false, apart := false, narrowed := true }
def StampMakesUptoSaid : Prop := stampMakesUptoRow.holds Try.pinned (OpenSpec.upto stampMakesSpec)

/-- 'gessolaw09.StampBack', WHERE WHAT IT READS IS OF BULK AT MOST 1048576: true; the input reads as it did. -/
def stampBackUptoRow : OpenClaim := { program := "ytedckelfdkfkoaa", sum := "ccfcc5f0f2defdad522441ff0e0225af91f1d1ae58bd7b07dc149b7b539a515d", func := "gesso/gessolaw09.StampBack", spec := "stampBack", unfollowed := true, recurses := true, plainKeys := false, apart := false, narrowed := true }
def StampBackUptoSaid : Prop := stampBackUptoRow.holds Try.pinned (OpenSpec.upto stampBackSpec)

/-- 'gessolaw09.StampTurns', WHERE WHAT IT READS IS OF BULK AT MOST 1048576: true; the input reads as it did. -/
def stampTurnsUptoRow : OpenClaim := { program := "ytedckelfdkfkoaa", sum := "ccfcc5f0f2defdad522441ff0e0225af91f1d1ae58bd7b07dc149b7b539a515d", func := "gesso/gessolaw09.StampTurns", spec := "stampTurns", unfollowed := true, recurses := true, plainKeys := false, apart := false, narrowed := true }
def StampTurnsUptoSaid : Prop := stampTurnsUptoRow.holds Try.pinned (OpenSpec.upto stampTurnsSpec)

/-- 'gessolaw09.StampLays', WHERE WHAT IT READS IS OF BULK AT MOST 1048576: true; the input reads as it did. -/
def stampLaysUptoRow : OpenClaim := { program := "ytedckelfdkfkoaa", sum := "ccfcc5f0f2defdad522441ff0e0225af91f1d1ae58bd7b07dc149b7b539a515d", func := "gesso/gessolaw09.StampLays", spec := "stampLays", unfollowed := true, recurses := true, plainKeys := false, apart := false, narrowed := true }
def StampLaysUptoSaid : Prop := stampLaysUptoRow.holds Try.pinned (OpenSpec.upto stampLaysSpec)

/-- 'gessolaw09.StampCuts', WHERE WHAT IT READS IS OF BULK AT MOST 1048576: true; the input reads as it did. -/
def stampCutsUptoRow : OpenClaim := { program := "ytedckelfdkfkoaa", sum := "ccfcc5f0f2defdad522441ff0e0225af91f1d1ae58bd7b07dc149b7b539a515d", func := "gesso/gessolaw09.StampCuts", spec := "stampCuts", unfollowed := true, recurses := true, plainKeys := false, apart := false, narrowed := true }
def StampCutsUptoSaid : Prop := stampCutsUptoRow.holds Try.pinned (OpenSpec.upto stampCutsSpec)

/-- 'gessolaw16.MarksKeep', WHERE WHAT IT READS IS OF BULK AT MOST 1048576: true; the input reads as it did. -/
def marksKeepUptoRow : OpenClaim := { program := "ytedckelfdkfkoaa", sum := "ccfcc5f0f2defdad522441ff0e0225af91f1d1ae58bd7b07dc149b7b539a515d", func := "gesso/gessolaw16.MarksKeep", spec := "marksKeep", inPlace := ["slices.overlaps[gesso/marks.Mark]"], unfollowed := true, recurses := true, plainKeys := false, apart := false, narrowed := true }
def MarksKeepUptoSaid : Prop := marksKeepUptoRow.holds Try.pinned (OpenSpec.upto marksKeepSpec)

/-- 'gessolaw16.MarksParts', WHERE WHAT IT READS IS OF BULK AT MOST 1048576: true; the input reads as it did. -/
def marksPartsUptoRow : OpenClaim := { program := "ytedckelfdkfkoaa", sum := "ccfcc5f0f2defdad522441ff0e0225af91f1d1ae58bd7b07dc149b7b539a515d", func := "gesso/gessolaw16.MarksParts", spec := "marksParts", inPlace := ["slices.overlaps[gesso/marks.Mark]"], unfollowed := true, recurses := true, plainKeys := false, apart := false, narrowed := true }
def MarksPartsUptoSaid : Prop := marksPartsUptoRow.holds Try.pinned (OpenSpec.upto marksPartsSpec)

/-- 'gessolaw16.MarksDue', WHERE WHAT IT READS IS OF BULK AT MOST 1048576: true; the input reads as it did. -/
def marksDueUptoRow : OpenClaim := { program := "ytedckelfdkfkoaa", sum := "ccfcc5f0f2defdad522441ff0e0225af91f1d1ae58bd7b07dc149b7b539a515d", func := "gesso/gessolaw16.MarksDue", spec := "marksDue", inPlace := ["slices.overlaps[gesso/marks.Mark]"], unfollowed := true, recurses := true, plainKeys := false, apart := false, narrowed := true }
def MarksDueUptoSaid : Prop := marksDueUptoRow.holds Try.pinned (OpenSpec.upto marksDueSpec)

/-- 'gessolaw16.MarksPuts', WHERE WHAT IT READS IS OF BULK AT MOST 1048576: true; the input reads as it did. -/
def marksPutsUptoRow : OpenClaim := { program := "ytedckelfdkfkoaa", sum := "ccfcc5f0f2defdad522441ff0e0225af91f1d1ae58bd7b07dc149b7b539a515d", func := "gesso/gessolaw16.MarksPuts", spec := "marksPuts", inPlace := ["slices.overlaps[gesso/marks.Mark]"], unfollowed := true, recurses := true, plainKeys := false, apart := false, narrowed := true }
def MarksPutsUptoSaid : Prop := marksPutsUptoRow.holds Try.pinned (OpenSpec.upto marksPutsSpec)

/-- 'gessolaw16.MarksTells', WHERE WHAT IT READS IS OF BULK AT MOST 1048576: true; the input reads as it did. -/
def marksTellsUptoRow : OpenClaim := { program := "ytedckelfdkfkoaa", sum := "ccfcc5f0f2defdad522441ff0e0225af91f1d1ae58bd7b07dc149b7b539a515d", func := "gesso/gessolaw16.MarksTells", spec := "marksTells", inPlace := ["slices.overlaps[gesso/marks.Mark]"], unfollowed := true, recurses := true, plainKeys := false, apart := false, narrowed := true }
def MarksTellsUptoSaid : Prop := marksTellsUptoRow.holds Try.pinned (OpenSpec.upto marksTellsSpec)

end Rows
end Go.Proofs.Ytedckelfdkfkoaa
