/-
  No cell of these rows narrows 'for every input' (looked for: loops, veiled, ifaces, maps, wideKeys, modest, calm, conditions, laid).
  DERIVED. THE GIVEN ROWS OF THIS SEAT. 27 by the template 'for every input the law returns true; each argument reads behind the call as it read before'; 0 by the template 'total and deterministic' (their statements: YtlehcagpddgamaaTotals.lean).
  GIVEN WITH THE SEED: the statements are not yours to turn. If you find one false, say at which input.
  Laid BY PROGRAM, IN A SANDBOX (cutbox-rows.mjs): the forced cells as the released guide's own fill.sh prints them over the translation 1b3d61210b1804ac… (all of the seat's roots in one cut). By AI agents, Wed Nov 11 2026. No macro, syntax, notation, axiom, sorry.
-/
import Derived.Test.YtlehcagpddgamaaChecked
import GoSem.Claim
import GoSem.ClaimJoined
import GoSem.ClaimMapViews
import Derived.JoinedTies
import Derived.KernelRfl
namespace Go.Proofs.Ytlehcagpddgamaa
/- THE CELL 'sum', in the pinned program and in every row, IS THE sha256 OF THE DUMP (.gsa) THAT YtlehcagpddgamaaProg.lean LOADS. Nothing in Lean hashes anything: it is a label: what it is worth is what the hold of that sum in a sandbox is worth. -/
noncomputable def Try.pinned : Pinned := { name := "ytlehcagpddgamaa", sum := "1b3d61210b1804ac5d08a88530b21207462293d934d1282b4e4266cb304c061e", checked := Try.checked }
namespace Rows
def none {H : Type} : Left H := { results := [], args := [] }

/-- 'joinerylaw09.NodeTells': WHATEVER THE INPUT: true; the input reads as it did. -/
def nodeTellsSpec : ChangeSpec := { name := "nodeTells", fn := fun _ => fun
  | [d] => { results := [.lit (.bool true)], args := [d] }
  | _ => none }
def nodeTellsRow : OpenClaim := { program := "ytlehcagpddgamaa", sum := "1b3d61210b1804ac5d08a88530b21207462293d934d1282b4e4266cb304c061e", func := "joinery/joinerylaw09.NodeTells", spec := "nodeTells", recurses := true, apart := false }
def NodeTellsSaid : Prop := nodeTellsRow.holds Try.pinned (OpenSpec.ofChange nodeTellsSpec)

/-- ITS FALSE NEIGHBOUR: 'it returns false'. Refute it at one input. -/
def nodeTellsWrong : ChangeSpec := { name := "nodeTells", fn := fun _ => fun
  | [d] => { results := [.lit (.bool false)], args := [d] }
  | _ => none }
def NodeTellsWrongFalsely : Prop := nodeTellsRow.holds Try.pinned (OpenSpec.ofChange nodeTellsWrong)

/-- 'joinerylaw09.NodeStays': WHATEVER THE INPUT: true; the input reads as it did. -/
def nodeStaysSpec : ChangeSpec := { name := "nodeStays", fn := fun _ => fun
  | [d1, d2, d3, d4, d5, d6, d7] => { results := [.lit (.bool true)], args := [d1, d2, d3, d4, d5, d6, d7] }
  | _ => none }
def nodeStaysRow : OpenClaim := { program := "ytlehcagpddgamaa", sum := "1b3d61210b1804ac5d08a88530b21207462293d934d1282b4e4266cb304c061e", func := "joinery/joinerylaw09.NodeStays", spec := "nodeStays", recurses := true, apart := false }
def NodeStaysSaid : Prop := nodeStaysRow.holds Try.pinned (OpenSpec.ofChange nodeStaysSpec)

/-- ITS FALSE NEIGHBOUR: 'it returns false'. Refute it at one input. -/
def nodeStaysWrong : ChangeSpec := { name := "nodeStays", fn := fun _ => fun
  | [d1, d2, d3, d4, d5, d6, d7] => { results := [.lit (.bool false)], args := [d1, d2, d3, d4, d5, d6, d7] }
  | _ => none }
def NodeStaysWrongFalsely : Prop := nodeStaysRow.holds Try.pinned (OpenSpec.ofChange nodeStaysWrong)

/-- 'joinerylaw09.NodeAdds': WHATEVER THE INPUT: true; the input reads as it did. -/
def nodeAddsSpec : ChangeSpec := { name := "nodeAdds", fn := fun _ => fun
  | [d1, d2, d3, d4] => { results := [.lit (.bool true)], args := [d1, d2, d3, d4] }
  | _ => none }
def nodeAddsRow : OpenClaim := { program := "ytlehcagpddgamaa", sum := "1b3d61210b1804ac5d08a88530b21207462293d934d1282b4e4266cb304c061e", func := "joinery/joinerylaw09.NodeAdds", spec := "nodeAdds", recurses := true, apart := false }
def NodeAddsSaid : Prop := nodeAddsRow.holds Try.pinned (OpenSpec.ofChange nodeAddsSpec)

/-- ITS FALSE NEIGHBOUR: 'it returns false'. Refute it at one input. -/
def nodeAddsWrong : ChangeSpec := { name := "nodeAdds", fn := fun _ => fun
  | [d1, d2, d3, d4] => { results := [.lit (.bool false)], args := [d1, d2, d3, d4] }
  | _ => none }
def NodeAddsWrongFalsely : Prop := nodeAddsRow.holds Try.pinned (OpenSpec.ofChange nodeAddsWrong)

/-- 'joinerylaw09.NodeWith': WHATEVER THE INPUT: true; the input reads as it did. -/
def nodeWithSpec : ChangeSpec := { name := "nodeWith", fn := fun _ => fun
  | [d1, d2, d3, d4, d5, d6, d7] => { results := [.lit (.bool true)], args := [d1, d2, d3, d4, d5, d6, d7] }
  | _ => none }
def nodeWithRow : OpenClaim := { program := "ytlehcagpddgamaa", sum := "1b3d61210b1804ac5d08a88530b21207462293d934d1282b4e4266cb304c061e", func := "joinery/joinerylaw09.NodeWith", spec := "nodeWith", recurses := true, apart := false }
def NodeWithSaid : Prop := nodeWithRow.holds Try.pinned (OpenSpec.ofChange nodeWithSpec)

/-- ITS FALSE NEIGHBOUR: 'it returns false'. Refute it at one input. -/
def nodeWithWrong : ChangeSpec := { name := "nodeWith", fn := fun _ => fun
  | [d1, d2, d3, d4, d5, d6, d7] => { results := [.lit (.bool false)], args := [d1, d2, d3, d4, d5, d6, d7] }
  | _ => none }
def NodeWithWrongFalsely : Prop := nodeWithRow.holds Try.pinned (OpenSpec.ofChange nodeWithWrong)

/-- 'joinerylaw01.MixBack': WHATEVER THE INPUT: true; the input reads as it did. -/
def mixBackSpec : ChangeSpec := { name := "mixBack", fn := fun _ => fun
  | [d1, d2] => { results := [.lit (.bool true)], args := [d1, d2] }
  | _ => none }
def mixBackRow : OpenClaim := { program := "ytlehcagpddgamaa", sum := "1b3d61210b1804ac5d08a88530b21207462293d934d1282b4e4266cb304c061e", func := "joinery/joinerylaw01.MixBack", spec := "mixBack", unfollowed := true, recurses := true, apart := false }
def MixBackSaid : Prop := mixBackRow.holds Try.pinned (OpenSpec.ofChange mixBackSpec)

/-- ITS FALSE NEIGHBOUR: 'it returns false'. Refute it at one input. -/
def mixBackWrong : ChangeSpec := { name := "mixBack", fn := fun _ => fun
  | [d1, d2] => { results := [.lit (.bool false)], args := [d1, d2] }
  | _ => none }
def MixBackWrongFalsely : Prop := mixBackRow.holds Try.pinned (OpenSpec.ofChange mixBackWrong)

/-- 'joinerylaw01.MixTurns': WHATEVER THE INPUT: true; the input reads as it did. -/
def mixTurnsSpec : ChangeSpec := { name := "mixTurns", fn := fun _ => fun
  | [d1, d2, d3] => { results := [.lit (.bool true)], args := [d1, d2, d3] }
  | _ => none }
def mixTurnsRow : OpenClaim := { program := "ytlehcagpddgamaa", sum := "1b3d61210b1804ac5d08a88530b21207462293d934d1282b4e4266cb304c061e", func := "joinery/joinerylaw01.MixTurns", spec := "mixTurns", unfollowed := true, recurses := true, apart := false }
def MixTurnsSaid : Prop := mixTurnsRow.holds Try.pinned (OpenSpec.ofChange mixTurnsSpec)

/-- ITS FALSE NEIGHBOUR: 'it returns false'. Refute it at one input. -/
def mixTurnsWrong : ChangeSpec := { name := "mixTurns", fn := fun _ => fun
  | [d1, d2, d3] => { results := [.lit (.bool false)], args := [d1, d2, d3] }
  | _ => none }
def MixTurnsWrongFalsely : Prop := mixTurnsRow.holds Try.pinned (OpenSpec.ofChange mixTurnsWrong)

/-- 'joinerylaw01.MixTells': WHATEVER THE INPUT: true; the input reads as it did. -/
def mixTellsSpec : ChangeSpec := { name := "mixTells", fn := fun _ => fun
  | [d1, d2, d3] => { results := [.lit (.bool true)], args := [d1, d2, d3] }
  | _ => none }
def mixTellsRow : OpenClaim := { program := "ytlehcagpddgamaa", sum := "1b3d61210b1804ac5d08a88530b21207462293d934d1282b4e4266cb304c061e", func := "joinery/joinerylaw01.MixTells", spec := "mixTells", unfollowed := true, recurses := true, apart := false }
def MixTellsSaid : Prop := mixTellsRow.holds Try.pinned (OpenSpec.ofChange mixTellsSpec)

/-- ITS FALSE NEIGHBOUR: 'it returns false'. Refute it at one input. -/
def mixTellsWrong : ChangeSpec := { name := "mixTells", fn := fun _ => fun
  | [d1, d2, d3] => { results := [.lit (.bool false)], args := [d1, d2, d3] }
  | _ => none }
def MixTellsWrongFalsely : Prop := mixTellsRow.holds Try.pinned (OpenSpec.ofChange mixTellsWrong)

/-- 'joinerylaw08.DrawOnce': WHATEVER THE INPUT: true; the input reads as it did. -/
def drawOnceSpec : ChangeSpec := { name := "drawOnce", fn := fun _ => fun
  | [d1, d2, d3] => { results := [.lit (.bool true)], args := [d1, d2, d3] }
  | _ => none }
def drawOnceRow : OpenClaim := { program := "ytlehcagpddgamaa", sum := "1b3d61210b1804ac5d08a88530b21207462293d934d1282b4e4266cb304c061e", func := "joinery/joinerylaw08.DrawOnce", spec := "drawOnce", unfollowed := true, recurses := true, apart := false }
def DrawOnceSaid : Prop := drawOnceRow.holds Try.pinned (OpenSpec.ofChange drawOnceSpec)

/-- ITS FALSE NEIGHBOUR: 'it returns false'. Refute it at one input. -/
def drawOnceWrong : ChangeSpec := { name := "drawOnce", fn := fun _ => fun
  | [d1, d2, d3] => { results := [.lit (.bool false)], args := [d1, d2, d3] }
  | _ => none }
def DrawOnceWrongFalsely : Prop := drawOnceRow.holds Try.pinned (OpenSpec.ofChange drawOnceWrong)

/-- 'joinerylaw08.DrawTells': WHATEVER THE INPUT: true; the input reads as it did. -/
def drawTellsSpec : ChangeSpec := { name := "drawTells", fn := fun _ => fun
  | [d1, d2, d3] => { results := [.lit (.bool true)], args := [d1, d2, d3] }
  | _ => none }
def drawTellsRow : OpenClaim := { program := "ytlehcagpddgamaa", sum := "1b3d61210b1804ac5d08a88530b21207462293d934d1282b4e4266cb304c061e", func := "joinery/joinerylaw08.DrawTells", spec := "drawTells", unfollowed := true, recurses := true, apart := false }
def DrawTellsSaid : Prop := drawTellsRow.holds Try.pinned (OpenSpec.ofChange drawTellsSpec)

/-- ITS FALSE NEIGHBOUR: 'it returns false'. Refute it at one input. -/
def drawTellsWrong : ChangeSpec := { name := "drawTells", fn := fun _ => fun
  | [d1, d2, d3] => { results := [.lit (.bool false)], args := [d1, d2, d3] }
  | _ => none }
def DrawTellsWrongFalsely : Prop := drawTellsRow.holds Try.pinned (OpenSpec.ofChange drawTellsWrong)

/-- 'joinerylaw13.ShareAdds': WHATEVER THE INPUT: true; the input reads as it did. -/
def shareAddsSpec : ChangeSpec := { name := "shareAdds", fn := fun _ => fun
  | [d1, d2, d3, d4] => { results := [.lit (.bool true)], args := [d1, d2, d3, d4] }
  | _ => none }
def shareAddsRow : OpenClaim := { program := "ytlehcagpddgamaa", sum := "1b3d61210b1804ac5d08a88530b21207462293d934d1282b4e4266cb304c061e", func := "joinery/joinerylaw13.ShareAdds", spec := "shareAdds", unfollowed := true, recurses := true, apart := false }
def ShareAddsSaid : Prop := shareAddsRow.holds Try.pinned (OpenSpec.ofChange shareAddsSpec)

/-- ITS FALSE NEIGHBOUR: 'it returns false'. Refute it at one input. -/
def shareAddsWrong : ChangeSpec := { name := "shareAdds", fn := fun _ => fun
  | [d1, d2, d3, d4] => { results := [.lit (.bool false)], args := [d1, d2, d3, d4] }
  | _ => none }
def ShareAddsWrongFalsely : Prop := shareAddsRow.holds Try.pinned (OpenSpec.ofChange shareAddsWrong)

/-- 'joinerylaw21.TreapJoins': WHATEVER THE INPUT: true; the input reads as it did. -/
def treapJoinsSpec : ChangeSpec := { name := "treapJoins", fn := fun _ => fun
  | [d1, d2, d3] => { results := [.lit (.bool true)], args := [d1, d2, d3] }
  | _ => none }
def treapJoinsRow : OpenClaim := { program := "ytlehcagpddgamaa", sum := "1b3d61210b1804ac5d08a88530b21207462293d934d1282b4e4266cb304c061e", func := "joinery/joinerylaw21.TreapJoins", spec := "treapJoins", unfollowed := true, recurses := true, apart := false }
def TreapJoinsSaid : Prop := treapJoinsRow.holds Try.pinned (OpenSpec.ofChange treapJoinsSpec)

/-- ITS FALSE NEIGHBOUR: 'it returns false'. Refute it at one input. -/
def treapJoinsWrong : ChangeSpec := { name := "treapJoins", fn := fun _ => fun
  | [d1, d2, d3] => { results := [.lit (.bool false)], args := [d1, d2, d3] }
  | _ => none }
def TreapJoinsWrongFalsely : Prop := treapJoinsRow.holds Try.pinned (OpenSpec.ofChange treapJoinsWrong)

/-- 'joinerylaw21.TreapjoinWays': WHATEVER THE INPUT: true; the input reads as it did. -/
def treapjoinWaysSpec : ChangeSpec := { name := "treapjoinWays", fn := fun _ => fun
  | [d1, d2, d3] => { results := [.lit (.bool true)], args := [d1, d2, d3] }
  | _ => none }
def treapjoinWaysRow : OpenClaim := { program := "ytlehcagpddgamaa", sum := "1b3d61210b1804ac5d08a88530b21207462293d934d1282b4e4266cb304c061e", func := "joinery/joinerylaw21.TreapjoinWays", spec := "treapjoinWays", unfollowed := true, recurses := true, apart := false }
def TreapjoinWaysSaid : Prop := treapjoinWaysRow.holds Try.pinned (OpenSpec.ofChange treapjoinWaysSpec)

/-- ITS FALSE NEIGHBOUR: 'it returns false'. Refute it at one input. -/
def treapjoinWaysWrong : ChangeSpec := { name := "treapjoinWays", fn := fun _ => fun
  | [d1, d2, d3] => { results := [.lit (.bool false)], args := [d1, d2, d3] }
  | _ => none }
def TreapjoinWaysWrongFalsely : Prop := treapjoinWaysRow.holds Try.pinned (OpenSpec.ofChange treapjoinWaysWrong)

/-- 'joinerylaw13.ShareAlike': WHATEVER THE INPUT: true; the input reads as it did. -/
def shareAlikeSpec : ChangeSpec := { name := "shareAlike", fn := fun _ => fun
  | [d] => { results := [.lit (.bool true)], args := [d] }
  | _ => none }
def shareAlikeRow : OpenClaim := { program := "ytlehcagpddgamaa", sum := "1b3d61210b1804ac5d08a88530b21207462293d934d1282b4e4266cb304c061e", func := "joinery/joinerylaw13.ShareAlike", spec := "shareAlike", unfollowed := true, recurses := true, apart := false }
def ShareAlikeSaid : Prop := shareAlikeRow.holds Try.pinned (OpenSpec.ofChange shareAlikeSpec)

/-- ITS FALSE NEIGHBOUR: 'it returns false'. Refute it at one input. -/
def shareAlikeWrong : ChangeSpec := { name := "shareAlike", fn := fun _ => fun
  | [d] => { results := [.lit (.bool false)], args := [d] }
  | _ => none }
def ShareAlikeWrongFalsely : Prop := shareAlikeRow.holds Try.pinned (OpenSpec.ofChange shareAlikeWrong)

/-- 'joinerylaw20.TreapTells': WHATEVER THE INPUT: true; the input reads as it did. -/
def treapTellsSpec : ChangeSpec := { name := "treapTells", fn := fun _ => fun
  | [d] => { results := [.lit (.bool true)], args := [d] }
  | _ => none }
def treapTellsRow : OpenClaim := { program := "ytlehcagpddgamaa", sum := "1b3d61210b1804ac5d08a88530b21207462293d934d1282b4e4266cb304c061e", func := "joinery/joinerylaw20.TreapTells", spec := "treapTells", unfollowed := true, recurses := true, apart := false }
def TreapTellsSaid : Prop := treapTellsRow.holds Try.pinned (OpenSpec.ofChange treapTellsSpec)

/-- ITS FALSE NEIGHBOUR: 'it returns false'. Refute it at one input. -/
def treapTellsWrong : ChangeSpec := { name := "treapTells", fn := fun _ => fun
  | [d] => { results := [.lit (.bool false)], args := [d] }
  | _ => none }
def TreapTellsWrongFalsely : Prop := treapTellsRow.holds Try.pinned (OpenSpec.ofChange treapTellsWrong)

/-- 'joinerylaw20.TreapAbove': WHATEVER THE INPUT: true; the input reads as it did. -/
def treapAboveSpec : ChangeSpec := { name := "treapAbove", fn := fun _ => fun
  | [d1, d2, d3] => { results := [.lit (.bool true)], args := [d1, d2, d3] }
  | _ => none }
def treapAboveRow : OpenClaim := { program := "ytlehcagpddgamaa", sum := "1b3d61210b1804ac5d08a88530b21207462293d934d1282b4e4266cb304c061e", func := "joinery/joinerylaw20.TreapAbove", spec := "treapAbove", unfollowed := true, recurses := true, apart := false }
def TreapAboveSaid : Prop := treapAboveRow.holds Try.pinned (OpenSpec.ofChange treapAboveSpec)

/-- ITS FALSE NEIGHBOUR: 'it returns false'. Refute it at one input. -/
def treapAboveWrong : ChangeSpec := { name := "treapAbove", fn := fun _ => fun
  | [d1, d2, d3] => { results := [.lit (.bool false)], args := [d1, d2, d3] }
  | _ => none }
def TreapAboveWrongFalsely : Prop := treapAboveRow.holds Try.pinned (OpenSpec.ofChange treapAboveWrong)

/-- 'joinerylaw20.TreapMakes': WHATEVER THE INPUT: true; the input reads as it did. -/
def treapMakesSpec : ChangeSpec := { name := "treapMakes", fn := fun _ => fun
  | [d] => { results := [.lit (.bool true)], args := [d] }
  | _ => none }
def treapMakesRow : OpenClaim := { program := "ytlehcagpddgamaa", sum := "1b3d61210b1804ac5d08a88530b21207462293d934d1282b4e4266cb304c061e", func := "joinery/joinerylaw20.TreapMakes", spec := "treapMakes", unfollowed := true, recurses := true, apart := false }
def TreapMakesSaid : Prop := treapMakesRow.holds Try.pinned (OpenSpec.ofChange treapMakesSpec)

/-- ITS FALSE NEIGHBOUR: 'it returns false'. Refute it at one input. -/
def treapMakesWrong : ChangeSpec := { name := "treapMakes", fn := fun _ => fun
  | [d] => { results := [.lit (.bool false)], args := [d] }
  | _ => none }
def TreapMakesWrongFalsely : Prop := treapMakesRow.holds Try.pinned (OpenSpec.ofChange treapMakesWrong)

/-- 'joinerylaw20.TreapOne': WHATEVER THE INPUT: true; the input reads as it did. -/
def treapOneSpec : ChangeSpec := { name := "treapOne", fn := fun _ => fun
  | [d1, d2] => { results := [.lit (.bool true)], args := [d1, d2] }
  | _ => none }
def treapOneRow : OpenClaim := { program := "ytlehcagpddgamaa", sum := "1b3d61210b1804ac5d08a88530b21207462293d934d1282b4e4266cb304c061e", func := "joinery/joinerylaw20.TreapOne", spec := "treapOne", unfollowed := true, recurses := true, apart := false }
def TreapOneSaid : Prop := treapOneRow.holds Try.pinned (OpenSpec.ofChange treapOneSpec)

/-- ITS FALSE NEIGHBOUR: 'it returns false'. Refute it at one input. -/
def treapOneWrong : ChangeSpec := { name := "treapOne", fn := fun _ => fun
  | [d1, d2] => { results := [.lit (.bool false)], args := [d1, d2] }
  | _ => none }
def TreapOneWrongFalsely : Prop := treapOneRow.holds Try.pinned (OpenSpec.ofChange treapOneWrong)

/-- 'joinerylaw21.TreapjoinShares': WHATEVER THE INPUT: true; the input reads as it did. -/
def treapjoinSharesSpec : ChangeSpec := { name := "treapjoinShares", fn := fun _ => fun
  | [d1, d2, d3] => { results := [.lit (.bool true)], args := [d1, d2, d3] }
  | _ => none }
def treapjoinSharesRow : OpenClaim := { program := "ytlehcagpddgamaa", sum := "1b3d61210b1804ac5d08a88530b21207462293d934d1282b4e4266cb304c061e", func := "joinery/joinerylaw21.TreapjoinShares", spec := "treapjoinShares", unfollowed := true, recurses := true, apart := false }
def TreapjoinSharesSaid : Prop := treapjoinSharesRow.holds Try.pinned (OpenSpec.ofChange treapjoinSharesSpec)

/-- ITS FALSE NEIGHBOUR: 'it returns false'. Refute it at one input. -/
def treapjoinSharesWrong : ChangeSpec := { name := "treapjoinShares", fn := fun _ => fun
  | [d1, d2, d3] => { results := [.lit (.bool false)], args := [d1, d2, d3] }
  | _ => none }
def TreapjoinSharesWrongFalsely : Prop := treapjoinSharesRow.holds Try.pinned (OpenSpec.ofChange treapjoinSharesWrong)

/-- 'joinerylaw02.OrderTells': WHATEVER THE INPUT: true; the input reads as it did. -/
def orderTellsSpec : ChangeSpec := { name := "orderTells", fn := fun _ => fun
  | [d1, d2, d3, d4] => { results := [.lit (.bool true)], args := [d1, d2, d3, d4] }
  | _ => none }
def orderTellsRow : OpenClaim := { program := "ytlehcagpddgamaa", sum := "1b3d61210b1804ac5d08a88530b21207462293d934d1282b4e4266cb304c061e", func := "joinery/joinerylaw02.OrderTells", spec := "orderTells", unfollowed := true, recurses := true, apart := false }
def OrderTellsSaid : Prop := orderTellsRow.holds Try.pinned (OpenSpec.ofChange orderTellsSpec)

/-- ITS FALSE NEIGHBOUR: 'it returns false'. Refute it at one input. -/
def orderTellsWrong : ChangeSpec := { name := "orderTells", fn := fun _ => fun
  | [d1, d2, d3, d4] => { results := [.lit (.bool false)], args := [d1, d2, d3, d4] }
  | _ => none }
def OrderTellsWrongFalsely : Prop := orderTellsRow.holds Try.pinned (OpenSpec.ofChange orderTellsWrong)

/-- 'joinerylaw02.OrderBack': WHATEVER THE INPUT: true; the input reads as it did. -/
def orderBackSpec : ChangeSpec := { name := "orderBack", fn := fun _ => fun
  | [d1, d2, d3] => { results := [.lit (.bool true)], args := [d1, d2, d3] }
  | _ => none }
def orderBackRow : OpenClaim := { program := "ytlehcagpddgamaa", sum := "1b3d61210b1804ac5d08a88530b21207462293d934d1282b4e4266cb304c061e", func := "joinery/joinerylaw02.OrderBack", spec := "orderBack", unfollowed := true, recurses := true, apart := false }
def OrderBackSaid : Prop := orderBackRow.holds Try.pinned (OpenSpec.ofChange orderBackSpec)

/-- ITS FALSE NEIGHBOUR: 'it returns false'. Refute it at one input. -/
def orderBackWrong : ChangeSpec := { name := "orderBack", fn := fun _ => fun
  | [d1, d2, d3] => { results := [.lit (.bool false)], args := [d1, d2, d3] }
  | _ => none }
def OrderBackWrongFalsely : Prop := orderBackRow.holds Try.pinned (OpenSpec.ofChange orderBackWrong)

/-- 'joinerylaw02.OrderRows': WHATEVER THE INPUT: true; the input reads as it did. -/
def orderRowsSpec : ChangeSpec := { name := "orderRows", fn := fun _ => fun
  | [d1, d2, d3, d4] => { results := [.lit (.bool true)], args := [d1, d2, d3, d4] }
  | _ => none }
def orderRowsRow : OpenClaim := { program := "ytlehcagpddgamaa", sum := "1b3d61210b1804ac5d08a88530b21207462293d934d1282b4e4266cb304c061e", func := "joinery/joinerylaw02.OrderRows", spec := "orderRows", unfollowed := true, recurses := true, apart := false }
def OrderRowsSaid : Prop := orderRowsRow.holds Try.pinned (OpenSpec.ofChange orderRowsSpec)

/-- ITS FALSE NEIGHBOUR: 'it returns false'. Refute it at one input. -/
def orderRowsWrong : ChangeSpec := { name := "orderRows", fn := fun _ => fun
  | [d1, d2, d3, d4] => { results := [.lit (.bool false)], args := [d1, d2, d3, d4] }
  | _ => none }
def OrderRowsWrongFalsely : Prop := orderRowsRow.holds Try.pinned (OpenSpec.ofChange orderRowsWrong)

/-- 'joinerylaw02.OrderMeans': WHATEVER THE INPUT: true; the input reads as it did. -/
def orderMeansSpec : ChangeSpec := { name := "orderMeans", fn := fun _ => fun
  | [d1, d2] => { results := [.lit (.bool true)], args := [d1, d2] }
  | _ => none }
def orderMeansRow : OpenClaim := { program := "ytlehcagpddgamaa", sum := "1b3d61210b1804ac5d08a88530b21207462293d934d1282b4e4266cb304c061e", func := "joinery/joinerylaw02.OrderMeans", spec := "orderMeans", unfollowed := true, recurses := true, apart := false }
def OrderMeansSaid : Prop := orderMeansRow.holds Try.pinned (OpenSpec.ofChange orderMeansSpec)

/-- ITS FALSE NEIGHBOUR: 'it returns false'. Refute it at one input. -/
def orderMeansWrong : ChangeSpec := { name := "orderMeans", fn := fun _ => fun
  | [d1, d2] => { results := [.lit (.bool false)], args := [d1, d2] }
  | _ => none }
def OrderMeansWrongFalsely : Prop := orderMeansRow.holds Try.pinned (OpenSpec.ofChange orderMeansWrong)

/-- 'joinerylaw12.SoundTells': WHATEVER THE INPUT: true; the input reads as it did. -/
def soundTellsSpec : ChangeSpec := { name := "soundTells", fn := fun _ => fun
  | [d1, d2, d3] => { results := [.lit (.bool true)], args := [d1, d2, d3] }
  | _ => none }
def soundTellsRow : OpenClaim := { program := "ytlehcagpddgamaa", sum := "1b3d61210b1804ac5d08a88530b21207462293d934d1282b4e4266cb304c061e", func := "joinery/joinerylaw12.SoundTells", spec := "soundTells", unfollowed := true, recurses := true, apart := false }
def SoundTellsSaid : Prop := soundTellsRow.holds Try.pinned (OpenSpec.ofChange soundTellsSpec)

/-- ITS FALSE NEIGHBOUR: 'it returns false'. Refute it at one input. -/
def soundTellsWrong : ChangeSpec := { name := "soundTells", fn := fun _ => fun
  | [d1, d2, d3] => { results := [.lit (.bool false)], args := [d1, d2, d3] }
  | _ => none }
def SoundTellsWrongFalsely : Prop := soundTellsRow.holds Try.pinned (OpenSpec.ofChange soundTellsWrong)

/-- 'joinerylaw12.SoundJoins': WHATEVER THE INPUT: true; the input reads as it did. -/
def soundJoinsSpec : ChangeSpec := { name := "soundJoins", fn := fun _ => fun
  | [d1, d2, d3, d4, d5, d6] => { results := [.lit (.bool true)], args := [d1, d2, d3, d4, d5, d6] }
  | _ => none }
def soundJoinsRow : OpenClaim := { program := "ytlehcagpddgamaa", sum := "1b3d61210b1804ac5d08a88530b21207462293d934d1282b4e4266cb304c061e", func := "joinery/joinerylaw12.SoundJoins", spec := "soundJoins", unfollowed := true, recurses := true, apart := false }
def SoundJoinsSaid : Prop := soundJoinsRow.holds Try.pinned (OpenSpec.ofChange soundJoinsSpec)

/-- ITS FALSE NEIGHBOUR: 'it returns false'. Refute it at one input. -/
def soundJoinsWrong : ChangeSpec := { name := "soundJoins", fn := fun _ => fun
  | [d1, d2, d3, d4, d5, d6] => { results := [.lit (.bool false)], args := [d1, d2, d3, d4, d5, d6] }
  | _ => none }
def SoundJoinsWrongFalsely : Prop := soundJoinsRow.holds Try.pinned (OpenSpec.ofChange soundJoinsWrong)

/-- 'joinerylaw12.SoundRises': WHATEVER THE INPUT: true; the input reads as it did. -/
def soundRisesSpec : ChangeSpec := { name := "soundRises", fn := fun _ => fun
  | [d1, d2] => { results := [.lit (.bool true)], args := [d1, d2] }
  | _ => none }
def soundRisesRow : OpenClaim := { program := "ytlehcagpddgamaa", sum := "1b3d61210b1804ac5d08a88530b21207462293d934d1282b4e4266cb304c061e", func := "joinery/joinerylaw12.SoundRises", spec := "soundRises", unfollowed := true, recurses := true, apart := false }
def SoundRisesSaid : Prop := soundRisesRow.holds Try.pinned (OpenSpec.ofChange soundRisesSpec)

/-- ITS FALSE NEIGHBOUR: 'it returns false'. Refute it at one input. -/
def soundRisesWrong : ChangeSpec := { name := "soundRises", fn := fun _ => fun
  | [d1, d2] => { results := [.lit (.bool false)], args := [d1, d2] }
  | _ => none }
def SoundRisesWrongFalsely : Prop := soundRisesRow.holds Try.pinned (OpenSpec.ofChange soundRisesWrong)

/-- 'joinerylaw35.WalkBack': WHATEVER THE INPUT: true; the input reads as it did. -/
def walkBackSpec : ChangeSpec := { name := "walkBack", fn := fun _ => fun
  | [d1, d2] => { results := [.lit (.bool true)], args := [d1, d2] }
  | _ => none }
def walkBackRow : OpenClaim := { program := "ytlehcagpddgamaa", sum := "1b3d61210b1804ac5d08a88530b21207462293d934d1282b4e4266cb304c061e", func := "joinery/joinerylaw35.WalkBack", spec := "walkBack", unfollowed := true, recurses := true, apart := false }
def WalkBackSaid : Prop := walkBackRow.holds Try.pinned (OpenSpec.ofChange walkBackSpec)

/-- ITS FALSE NEIGHBOUR: 'it returns false'. Refute it at one input. -/
def walkBackWrong : ChangeSpec := { name := "walkBack", fn := fun _ => fun
  | [d1, d2] => { results := [.lit (.bool false)], args := [d1, d2] }
  | _ => none }
def WalkBackWrongFalsely : Prop := walkBackRow.holds Try.pinned (OpenSpec.ofChange walkBackWrong)

/-- 'joinerylaw35.WalkTells': WHATEVER THE INPUT: true; the input reads as it did. -/
def walkTellsSpec : ChangeSpec := { name := "walkTells", fn := fun _ => fun
  | [d1, d2, d3, d4, d5] => { results := [.lit (.bool true)], args := [d1, d2, d3, d4, d5] }
  | _ => none }
def walkTellsRow : OpenClaim := { program := "ytlehcagpddgamaa", sum := "1b3d61210b1804ac5d08a88530b21207462293d934d1282b4e4266cb304c061e", func := "joinery/joinerylaw35.WalkTells", spec := "walkTells", unfollowed := true, recurses := true, apart := false }
def WalkTellsSaid : Prop := walkTellsRow.holds Try.pinned (OpenSpec.ofChange walkTellsSpec)

/-- ITS FALSE NEIGHBOUR: 'it returns false'. Refute it at one input. -/
def walkTellsWrong : ChangeSpec := { name := "walkTells", fn := fun _ => fun
  | [d1, d2, d3, d4, d5] => { results := [.lit (.bool false)], args := [d1, d2, d3, d4, d5] }
  | _ => none }
def WalkTellsWrongFalsely : Prop := walkTellsRow.holds Try.pinned (OpenSpec.ofChange walkTellsWrong)

/- THE SECOND FORM. 'bulk': how many values and letters a reading holds, each counted each time it is reached (what is shared counts as often as it is met; a slice's spare places count too). A statement '..UptoSaid' is the law's where the arguments, and the package variables that the reading takes, are together of bulk at most 1048576: NARROWER than '..Said'. Prove '..Said' where nothing that the law and all that it calls make is longer than what came in: it says more and counts as full. Else prove '..UptoSaid'. A law counts once. -/
mutual
def uptoBulk {H : Type} : DataW H → Nat
  | .lit (.string bytes) => bytes.length + 1
  | .lit _ => 1
  | .nil => 1
  | .ptr d => uptoBulk d + 1
  | .slice elems spare => uptoBulkAll elems + uptoBulkAll spare + 1
  | .agg parts => uptoBulkAll parts + 1
  | .iface _ d => uptoBulk d + 1
  | .map entries => uptoBulkEntries entries + 1
  | .held _ => 1
def uptoBulkAll {H : Type} : List (DataW H) → Nat
  | [] => 0
  | d :: r => uptoBulk d + uptoBulkAll r
def uptoBulkEntries {H : Type} : List (Lit × DataW H) → Nat
  | [] => 0
  | x :: r => uptoBulkEntry x + uptoBulkEntries r
def uptoBulkEntry {H : Type} : Lit × DataW H → Nat
  | (.string bytes, d) => bytes.length + uptoBulk d + 1
  | (_, d) => uptoBulk d + 1
 end
def uptoSmall : (H : Type) → List (DataW H) → Bool := fun _ ds => decide (uptoBulkAll ds ≤ 1048576)
def OpenSpec.upto (s : _root_.Go.ChangeSpec) : _root_.Go.OpenSpec := { _root_.Go.OpenSpec.ofChange s with cond := some uptoSmall }

/-- 'joinerylaw09.NodeTells', WHERE WHAT IT READS IS OF BULK AT MOST 1048576: true; the input reads as it did. -/
def nodeTellsUptoRow : OpenClaim := { program := "ytlehcagpddgamaa", sum := "1b3d61210b1804ac5d08a88530b21207462293d934d1282b4e4266cb304c061e", func := "joinery/joinerylaw09.NodeTells", spec := "nodeTells", recurses := true, apart := false, narrowed := true }
def NodeTellsUptoSaid : Prop := nodeTellsUptoRow.holds Try.pinned (OpenSpec.upto nodeTellsSpec)

/-- 'joinerylaw09.NodeStays', WHERE WHAT IT READS IS OF BULK AT MOST 1048576: true; the input reads as it did. -/
def nodeStaysUptoRow : OpenClaim := { program := "ytlehcagpddgamaa", sum := "1b3d61210b1804ac5d08a88530b21207462293d934d1282b4e4266cb304c061e", func := "joinery/joinerylaw09.NodeStays", spec := "nodeStays", recurses := true, apart := false, narrowed := true }
def NodeStaysUptoSaid : Prop := nodeStaysUptoRow.holds Try.pinned (OpenSpec.upto nodeStaysSpec)

/-- 'joinerylaw09.NodeAdds', WHERE WHAT IT READS IS OF BULK AT MOST 1048576: true; the input reads as it did. -/
def nodeAddsUptoRow : OpenClaim := { program := "ytlehcagpddgamaa", sum := "1b3d61210b1804ac5d08a88530b21207462293d934d1282b4e4266cb304c061e", func := "joinery/joinerylaw09.NodeAdds", spec := "nodeAdds", recurses := true, apart := false, narrowed := true }
def NodeAddsUptoSaid : Prop := nodeAddsUptoRow.holds Try.pinned (OpenSpec.upto nodeAddsSpec)

/-- 'joinerylaw09.NodeWith', WHERE WHAT IT READS IS OF BULK AT MOST 1048576: true; the input reads as it did. -/
def nodeWithUptoRow : OpenClaim := { program := "ytlehcagpddgamaa", sum := "1b3d61210b1804ac5d08a88530b21207462293d934d1282b4e4266cb304c061e", func := "joinery/joinerylaw09.NodeWith", spec := "nodeWith", recurses := true, apart := false, narrowed := true }
def NodeWithUptoSaid : Prop := nodeWithUptoRow.holds Try.pinned (OpenSpec.upto nodeWithSpec)

/-- 'joinerylaw01.MixBack', WHERE WHAT IT READS IS OF BULK AT MOST 1048576: true; the input reads as it did. -/
def mixBackUptoRow : OpenClaim := { program := "ytlehcagpddgamaa", sum := "1b3d61210b1804ac5d08a88530b21207462293d934d1282b4e4266cb304c061e", func := "joinery/joinerylaw01.MixBack", spec := "mixBack", unfollowed := true, recurses := true, apart := false, narrowed := true }
def MixBackUptoSaid : Prop := mixBackUptoRow.holds Try.pinned (OpenSpec.upto mixBackSpec)

/-- 'joinerylaw01.MixTurns', WHERE WHAT IT READS IS OF BULK AT MOST 1048576: true; the input reads as it did. -/
def mixTurnsUptoRow : OpenClaim := { program := "ytlehcagpddgamaa", sum := "1b3d61210b1804ac5d08a88530b21207462293d934d1282b4e4266cb304c061e", func := "joinery/joinerylaw01.MixTurns", spec := "mixTurns", unfollowed := true, recurses := true, apart := false, narrowed := true }
def MixTurnsUptoSaid : Prop := mixTurnsUptoRow.holds Try.pinned (OpenSpec.upto mixTurnsSpec)

/-- 'joinerylaw01.MixTells', WHERE WHAT IT READS IS OF BULK AT MOST 1048576: true; the input reads as it did. -/
def mixTellsUptoRow : OpenClaim := { program := "ytlehcagpddgamaa", sum := "1b3d61210b1804ac5d08a88530b21207462293d934d1282b4e4266cb304c061e", func := "joinery/joinerylaw01.MixTells", spec := "mixTells", unfollowed := true, recurses := true, apart := false, narrowed := true }
def MixTellsUptoSaid : Prop := mixTellsUptoRow.holds Try.pinned (OpenSpec.upto mixTellsSpec)

/-- 'joinerylaw08.DrawOnce', WHERE WHAT IT READS IS OF BULK AT MOST 1048576: true; the input reads as it did. -/
def drawOnceUptoRow : OpenClaim := { program := "ytlehcagpddgamaa", sum := "1b3d61210b1804ac5d08a88530b21207462293d934d1282b4e4266cb304c061e", func := "joinery/joinerylaw08.DrawOnce", spec := "drawOnce", unfollowed := true, recurses := true, apart := false, narrowed := true }
def DrawOnceUptoSaid : Prop := drawOnceUptoRow.holds Try.pinned (OpenSpec.upto drawOnceSpec)

/-- 'joinerylaw08.DrawTells', WHERE WHAT IT READS IS OF BULK AT MOST 1048576: true; the input reads as it did. -/
def drawTellsUptoRow : OpenClaim := { program := "ytlehcagpddgamaa", sum := "1b3d61210b1804ac5d08a88530b21207462293d934d1282b4e4266cb304c061e", func := "joinery/joinerylaw08.DrawTells", spec := "drawTells", unfollowed := true, recurses := true, apart := false, narrowed := true }
def DrawTellsUptoSaid : Prop := drawTellsUptoRow.holds Try.pinned (OpenSpec.upto drawTellsSpec)

/-- 'joinerylaw13.ShareAdds', WHERE WHAT IT READS IS OF BULK AT MOST 1048576: true; the input reads as it did. -/
def shareAddsUptoRow : OpenClaim := { program := "ytlehcagpddgamaa", sum := "1b3d61210b1804ac5d08a88530b21207462293d934d1282b4e4266cb304c061e", func := "joinery/joinerylaw13.ShareAdds", spec := "shareAdds", unfollowed := true, recurses := true, apart := false, narrowed := true }
def ShareAddsUptoSaid : Prop := shareAddsUptoRow.holds Try.pinned (OpenSpec.upto shareAddsSpec)

/-- 'joinerylaw21.TreapJoins', WHERE WHAT IT READS IS OF BULK AT MOST 1048576: true; the input reads as it did. -/
def treapJoinsUptoRow : OpenClaim := { program := "ytlehcagpddgamaa", sum := "1b3d61210b1804ac5d08a88530b21207462293d934d1282b4e4266cb304c061e", func := "joinery/joinerylaw21.TreapJoins", spec := "treapJoins", unfollowed := true, recurses := true, apart := false, narrowed := true }
def TreapJoinsUptoSaid : Prop := treapJoinsUptoRow.holds Try.pinned (OpenSpec.upto treapJoinsSpec)

/-- 'joinerylaw21.TreapjoinWays', WHERE WHAT IT READS IS OF BULK AT MOST 1048576: true; the input reads as it did. -/
def treapjoinWaysUptoRow : OpenClaim := { program := "ytlehcagpddgamaa", sum := "1b3d61210b1804ac5d08a88530b21207462293d934d1282b4e4266cb304c061e", func := "joinery/joinerylaw21.TreapjoinWays", spec := "treapjoinWays", unfollowed := true, recurses := true, apart := false, narrowed := true }
def TreapjoinWaysUptoSaid : Prop := treapjoinWaysUptoRow.holds Try.pinned (OpenSpec.upto treapjoinWaysSpec)

/-- 'joinerylaw13.ShareAlike', WHERE WHAT IT READS IS OF BULK AT MOST 1048576: true; the input reads as it did. -/
def shareAlikeUptoRow : OpenClaim := { program := "ytlehcagpddgamaa", sum := "1b3d61210b1804ac5d08a88530b21207462293d934d1282b4e4266cb304c061e", func := "joinery/joinerylaw13.ShareAlike", spec := "shareAlike", unfollowed := true, recurses := true, apart := false, narrowed := true }
def ShareAlikeUptoSaid : Prop := shareAlikeUptoRow.holds Try.pinned (OpenSpec.upto shareAlikeSpec)

/-- 'joinerylaw20.TreapTells', WHERE WHAT IT READS IS OF BULK AT MOST 1048576: true; the input reads as it did. -/
def treapTellsUptoRow : OpenClaim := { program := "ytlehcagpddgamaa", sum := "1b3d61210b1804ac5d08a88530b21207462293d934d1282b4e4266cb304c061e", func := "joinery/joinerylaw20.TreapTells", spec := "treapTells", unfollowed := true, recurses := true, apart := false, narrowed := true }
def TreapTellsUptoSaid : Prop := treapTellsUptoRow.holds Try.pinned (OpenSpec.upto treapTellsSpec)

/-- 'joinerylaw20.TreapAbove', WHERE WHAT IT READS IS OF BULK AT MOST 1048576: true; the input reads as it did. -/
def treapAboveUptoRow : OpenClaim := { program := "ytlehcagpddgamaa", sum := "1b3d61210b1804ac5d08a88530b21207462293d934d1282b4e4266cb304c061e", func := "joinery/joinerylaw20.TreapAbove", spec := "treapAbove", unfollowed := true, recurses := true, apart := false, narrowed := true }
def TreapAboveUptoSaid : Prop := treapAboveUptoRow.holds Try.pinned (OpenSpec.upto treapAboveSpec)

/-- 'joinerylaw20.TreapMakes', WHERE WHAT IT READS IS OF BULK AT MOST 1048576: true; the input reads as it did. -/
def treapMakesUptoRow : OpenClaim := { program := "ytlehcagpddgamaa", sum := "1b3d61210b1804ac5d08a88530b21207462293d934d1282b4e4266cb304c061e", func := "joinery/joinerylaw20.TreapMakes", spec := "treapMakes", unfollowed := true, recurses := true, apart := false, narrowed := true }
def TreapMakesUptoSaid : Prop := treapMakesUptoRow.holds Try.pinned (OpenSpec.upto treapMakesSpec)

/-- 'joinerylaw20.TreapOne', WHERE WHAT IT READS IS OF BULK AT MOST 1048576: true; the input reads as it did. -/
def treapOneUptoRow : OpenClaim := { program := "ytlehcagpddgamaa", sum := "1b3d61210b1804ac5d08a88530b21207462293d934d1282b4e4266cb304c061e", func := "joinery/joinerylaw20.TreapOne", spec := "treapOne", unfollowed := true, recurses := true, apart := false, narrowed := true }
def TreapOneUptoSaid : Prop := treapOneUptoRow.holds Try.pinned (OpenSpec.upto treapOneSpec)

/-- 'joinerylaw21.TreapjoinShares', WHERE WHAT IT READS IS OF BULK AT MOST 1048576: true; the input reads as it did. -/
def treapjoinSharesUptoRow : OpenClaim := { program := "ytlehcagpddgamaa", sum := "1b3d61210b1804ac5d08a88530b21207462293d934d1282b4e4266cb304c061e", func := "joinery/joinerylaw21.TreapjoinShares", spec := "treapjoinShares", unfollowed := true, recurses := true, apart := false, narrowed := true }
def TreapjoinSharesUptoSaid : Prop := treapjoinSharesUptoRow.holds Try.pinned (OpenSpec.upto treapjoinSharesSpec)

/-- 'joinerylaw02.OrderTells', WHERE WHAT IT READS IS OF BULK AT MOST 1048576: true; the input reads as it did. -/
def orderTellsUptoRow : OpenClaim := { program := "ytlehcagpddgamaa", sum := "1b3d61210b1804ac5d08a88530b21207462293d934d1282b4e4266cb304c061e", func := "joinery/joinerylaw02.OrderTells", spec := "orderTells", unfollowed := true, recurses := true, apart := false, narrowed := true }
def OrderTellsUptoSaid : Prop := orderTellsUptoRow.holds Try.pinned (OpenSpec.upto orderTellsSpec)

/-- 'joinerylaw02.OrderBack', WHERE WHAT IT READS IS OF BULK AT MOST 1048576: true; the input reads as it did. -/
def orderBackUptoRow : OpenClaim := { program := "ytlehcagpddgamaa", sum := "1b3d61210b1804ac5d08a88530b21207462293d934d1282b4e4266cb304c061e", func := "joinery/joinerylaw02.OrderBack", spec := "orderBack", unfollowed := true, recurses := true, apart := false, narrowed := true }
def OrderBackUptoSaid : Prop := orderBackUptoRow.holds Try.pinned (OpenSpec.upto orderBackSpec)

/-- 'joinerylaw02.OrderRows', WHERE WHAT IT READS IS OF BULK AT MOST 1048576: true; the input reads as it did. -/
def orderRowsUptoRow : OpenClaim := { program := "ytlehcagpddgamaa", sum := "1b3d61210b1804ac5d08a88530b21207462293d934d1282b4e4266cb304c061e", func := "joinery/joinerylaw02.OrderRows", spec := "orderRows", unfollowed := true, recurses := true, apart := false, narrowed := true }
def OrderRowsUptoSaid : Prop := orderRowsUptoRow.holds Try.pinned (OpenSpec.upto orderRowsSpec)

/-- 'joinerylaw02.OrderMeans', WHERE WHAT IT READS IS OF BULK AT MOST 1048576: true; the input reads as it did. -/
def orderMeansUptoRow : OpenClaim := { program := "ytlehcagpddgamaa", sum := "1b3d61210b1804ac5d08a88530b21207462293d934d1282b4e4266cb304c061e", func := "joinery/joinerylaw02.OrderMeans", spec := "orderMeans", unfollowed := true, recurses := true, apart := false, narrowed := true }
def OrderMeansUptoSaid : Prop := orderMeansUptoRow.holds Try.pinned (OpenSpec.upto orderMeansSpec)

/-- 'joinerylaw12.SoundTells', WHERE WHAT IT READS IS OF BULK AT MOST 1048576: true; the input reads as it did. -/
def soundTellsUptoRow : OpenClaim := { program := "ytlehcagpddgamaa", sum := "1b3d61210b1804ac5d08a88530b21207462293d934d1282b4e4266cb304c061e", func := "joinery/joinerylaw12.SoundTells", spec := "soundTells", unfollowed := true, recurses := true, apart := false, narrowed := true }
def SoundTellsUptoSaid : Prop := soundTellsUptoRow.holds Try.pinned (OpenSpec.upto soundTellsSpec)

/-- 'joinerylaw12.SoundJoins', WHERE WHAT IT READS IS OF BULK AT MOST 1048576: true; the input reads as it did. -/
def soundJoinsUptoRow : OpenClaim := { program := "ytlehcagpddgamaa", sum := "1b3d61210b1804ac5d08a88530b21207462293d934d1282b4e4266cb304c061e", func := "joinery/joinerylaw12.SoundJoins", spec := "soundJoins", unfollowed := true, recurses := true, apart := false, narrowed := true }
def SoundJoinsUptoSaid : Prop := soundJoinsUptoRow.holds Try.pinned (OpenSpec.upto soundJoinsSpec)

/-- 'joinerylaw12.SoundRises', WHERE WHAT IT READS IS OF BULK AT MOST 1048576: true; the input reads as it did. -/
def soundRisesUptoRow : OpenClaim := { program := "ytlehcagpddgamaa", sum := "1b3d61210b1804ac5d08a88530b21207462293d934d1282b4e4266cb304c061e", func := "joinery/joinerylaw12.SoundRises", spec := "soundRises", unfollowed := true, recurses := true, apart := false, narrowed := true }
def SoundRisesUptoSaid : Prop := soundRisesUptoRow.holds Try.pinned (OpenSpec.upto soundRisesSpec)

/-- 'joinerylaw35.WalkBack', WHERE WHAT IT READS IS OF BULK AT MOST 1048576: true; the input reads as it did. -/
def walkBackUptoRow : OpenClaim := { program := "ytlehcagpddgamaa", sum := "1b3d61210b1804ac5d08a88530b21207462293d934d1282b4e4266cb304c061e", func := "joinery/joinerylaw35.WalkBack", spec := "walkBack", unfollowed := true, recurses := true, apart := false, narrowed := true }
def WalkBackUptoSaid : Prop := walkBackUptoRow.holds Try.pinned (OpenSpec.upto walkBackSpec)

/-- 'joinerylaw35.WalkTells', WHERE WHAT IT READS IS OF BULK AT MOST 1048576: true; the input reads as it did. -/
def walkTellsUptoRow : OpenClaim := { program := "ytlehcagpddgamaa", sum := "1b3d61210b1804ac5d08a88530b21207462293d934d1282b4e4266cb304c061e", func := "joinery/joinerylaw35.WalkTells", spec := "walkTells", unfollowed := true, recurses := true, apart := false, narrowed := true }
def WalkTellsUptoSaid : Prop := walkTellsUptoRow.holds Try.pinned (OpenSpec.upto walkTellsSpec)

end Rows
end Go.Proofs.Ytlehcagpddgamaa
