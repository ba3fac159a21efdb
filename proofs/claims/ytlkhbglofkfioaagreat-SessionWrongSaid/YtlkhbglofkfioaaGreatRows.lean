/-
  No cell of these rows narrows 'for every input' (looked for: loops, veiled, ifaces, maps, wideKeys, modest, calm, conditions, laid).
  DERIVED. THE GIVEN ROWS OF THIS SEAT. 18 by the template 'for every input the law returns true; each argument reads behind the call as it read before'; 0 by the template 'total and deterministic' (their statements: YtlkhbglofkfioaaGreatTotals.lean).
  GIVEN WITH THE SEED: the statements are not yours to turn. If you find one false, say at which input.
  Laid BY PROGRAM, IN A SANDBOX (cutbox-rows.mjs): the forced cells as the released guide's own fill.sh prints them over the translation 4393957f89533f0e… (all of the seat's roots in one cut). By AI agents, Wed Nov 11 2026. No macro, syntax, notation, axiom, sorry.
-/
import Derived.Test.YtlkhbglofkfioaaGreatChecked
import GoSem.Claim
import GoSem.ClaimJoined
import GoSem.ClaimMapViews
import Derived.JoinedTies
import Derived.KernelRfl
namespace Go.Proofs.YtlkhbglofkfioaaGreat
/- THE CELL 'sum', in the pinned program and in every row, IS THE sha256 OF THE DUMP (.gsa) THAT YtlkhbglofkfioaaGreatProg.lean LOADS. Nothing in Lean hashes anything: it is a label: what it is worth is what the hold of that sum in a sandbox is worth. -/
noncomputable def Tryz.pinned : Pinned := { name := "ytlkhbglofkfioaagreat", sum := "4393957f89533f0e27469f18dc573a6099b3f762dcfbbe598ad467ca9f622810", checked := Tryz.checked }
namespace Rows
def none {H : Type} : Left H := { results := [], args := [] }

/-- 'signpostlaw21.ExportTells': WHATEVER THE INPUT: true; the input reads as it did. -/
def exportTellsSpec : ChangeSpec := { name := "exportTells", fn := fun _ => fun
  | [d1, d2, d3, d4, d5] => { results := [.lit (.bool true)], args := [d1, d2, d3, d4, d5] }
  | _ => none }
def exportTellsRow : OpenClaim := { program := "ytlkhbglofkfioaagreat", sum := "4393957f89533f0e27469f18dc573a6099b3f762dcfbbe598ad467ca9f622810", func := "signpost/signpostlaw21.ExportTells", spec := "exportTells", inPlace := ["slices.overlaps[uint32]", "slices.overlaps[signpost/api.Seg]"], unfollowed := true, recurses := true, plainKeys := false, apart := false }
def ExportTellsSaid : Prop := exportTellsRow.holds Tryz.pinned (OpenSpec.ofChange exportTellsSpec)

/-- ITS FALSE NEIGHBOUR: 'it returns false'. Refute it at one input. -/
def exportTellsWrong : ChangeSpec := { name := "exportTells", fn := fun _ => fun
  | [d1, d2, d3, d4, d5] => { results := [.lit (.bool false)], args := [d1, d2, d3, d4, d5] }
  | _ => none }
def ExportTellsWrongFalsely : Prop := exportTellsRow.holds Tryz.pinned (OpenSpec.ofChange exportTellsWrong)

/-- 'signpostlaw9.UpdateNumbers': WHATEVER THE INPUT: true; the input reads as it did. -/
def updateNumbersSpec : ChangeSpec := { name := "updateNumbers", fn := fun _ => fun
  | [] => { results := [.lit (.bool true)], args := [] }
  | _ => none }
def updateNumbersRow : OpenClaim := { program := "ytlkhbglofkfioaagreat", sum := "4393957f89533f0e27469f18dc573a6099b3f762dcfbbe598ad467ca9f622810", func := "signpost/signpostlaw9.UpdateNumbers", spec := "updateNumbers", unfollowed := true, recurses := true, plainKeys := false, apart := false }
def UpdateNumbersSaid : Prop := updateNumbersRow.holds Tryz.pinned (OpenSpec.ofChange updateNumbersSpec)

/-- ITS FALSE NEIGHBOUR: 'it returns false'. Refute it at one input. -/
def updateNumbersWrong : ChangeSpec := { name := "updateNumbers", fn := fun _ => fun
  | [] => { results := [.lit (.bool false)], args := [] }
  | _ => none }
def UpdateNumbersWrongFalsely : Prop := updateNumbersRow.holds Tryz.pinned (OpenSpec.ofChange updateNumbersWrong)

/-- 'signpostlaw9.UpdateBack': WHATEVER THE INPUT: true; the input reads as it did. -/
def updateBackSpec : ChangeSpec := { name := "updateBack", fn := fun _ => fun
  | [d] => { results := [.lit (.bool true)], args := [d] }
  | _ => none }
def updateBackRow : OpenClaim := { program := "ytlkhbglofkfioaagreat", sum := "4393957f89533f0e27469f18dc573a6099b3f762dcfbbe598ad467ca9f622810", func := "signpost/signpostlaw9.UpdateBack", spec := "updateBack", unfollowed := true, recurses := true, plainKeys := false, apart := false }
def UpdateBackSaid : Prop := updateBackRow.holds Tryz.pinned (OpenSpec.ofChange updateBackSpec)

/-- ITS FALSE NEIGHBOUR: 'it returns false'. Refute it at one input. -/
def updateBackWrong : ChangeSpec := { name := "updateBack", fn := fun _ => fun
  | [d] => { results := [.lit (.bool false)], args := [d] }
  | _ => none }
def UpdateBackWrongFalsely : Prop := updateBackRow.holds Tryz.pinned (OpenSpec.ofChange updateBackWrong)

/-- 'signpostlaw9.UpdateLengths': WHATEVER THE INPUT: true; the input reads as it did. -/
def updateLengthsSpec : ChangeSpec := { name := "updateLengths", fn := fun _ => fun
  | [d1, d2, d3] => { results := [.lit (.bool true)], args := [d1, d2, d3] }
  | _ => none }
def updateLengthsRow : OpenClaim := { program := "ytlkhbglofkfioaagreat", sum := "4393957f89533f0e27469f18dc573a6099b3f762dcfbbe598ad467ca9f622810", func := "signpost/signpostlaw9.UpdateLengths", spec := "updateLengths", unfollowed := true, recurses := true, plainKeys := false, apart := false }
def UpdateLengthsSaid : Prop := updateLengthsRow.holds Tryz.pinned (OpenSpec.ofChange updateLengthsSpec)

/-- ITS FALSE NEIGHBOUR: 'it returns false'. Refute it at one input. -/
def updateLengthsWrong : ChangeSpec := { name := "updateLengths", fn := fun _ => fun
  | [d1, d2, d3] => { results := [.lit (.bool false)], args := [d1, d2, d3] }
  | _ => none }
def UpdateLengthsWrongFalsely : Prop := updateLengthsRow.holds Tryz.pinned (OpenSpec.ofChange updateLengthsWrong)

/-- 'signpostlaw9.UpdateBoth': WHATEVER THE INPUT: true; the input reads as it did. -/
def updateBothSpec : ChangeSpec := { name := "updateBoth", fn := fun _ => fun
  | [d1, d2] => { results := [.lit (.bool true)], args := [d1, d2] }
  | _ => none }
def updateBothRow : OpenClaim := { program := "ytlkhbglofkfioaagreat", sum := "4393957f89533f0e27469f18dc573a6099b3f762dcfbbe598ad467ca9f622810", func := "signpost/signpostlaw9.UpdateBoth", spec := "updateBoth", unfollowed := true, recurses := true, plainKeys := false, apart := false }
def UpdateBothSaid : Prop := updateBothRow.holds Tryz.pinned (OpenSpec.ofChange updateBothSpec)

/-- ITS FALSE NEIGHBOUR: 'it returns false'. Refute it at one input. -/
def updateBothWrong : ChangeSpec := { name := "updateBoth", fn := fun _ => fun
  | [d1, d2] => { results := [.lit (.bool false)], args := [d1, d2] }
  | _ => none }
def UpdateBothWrongFalsely : Prop := updateBothRow.holds Tryz.pinned (OpenSpec.ofChange updateBothWrong)

/-- 'signpostlaw12.SessionPieces': WHATEVER THE INPUT: true; the input reads as it did. -/
def sessionPiecesSpec : ChangeSpec := { name := "sessionPieces", fn := fun _ => fun
  | [d1, d2] => { results := [.lit (.bool true)], args := [d1, d2] }
  | _ => none }
def sessionPiecesRow : OpenClaim := { program := "ytlkhbglofkfioaagreat", sum := "4393957f89533f0e27469f18dc573a6099b3f762dcfbbe598ad467ca9f622810", func := "signpost/signpostlaw12.SessionPieces", spec := "sessionPieces", inPlace := ["internal/bytealg.MakeNoZero"], unfollowed := true, recurses := true, plainKeys := false, apart := false }
def SessionPiecesSaid : Prop := sessionPiecesRow.holds Tryz.pinned (OpenSpec.ofChange sessionPiecesSpec)

/-- ITS FALSE NEIGHBOUR: 'it returns false'. Refute it at one input. -/
def sessionPiecesWrong : ChangeSpec := { name := "sessionPieces", fn := fun _ => fun
  | [d1, d2] => { results := [.lit (.bool false)], args := [d1, d2] }
  | _ => none }
def SessionPiecesWrongFalsely : Prop := sessionPiecesRow.holds Tryz.pinned (OpenSpec.ofChange sessionPiecesWrong)

/-- 'signpostlaw12.SessionTwo': WHATEVER THE INPUT: true; the input reads as it did. -/
def sessionTwoSpec : ChangeSpec := { name := "sessionTwo", fn := fun _ => fun
  | [d1, d2, d3] => { results := [.lit (.bool true)], args := [d1, d2, d3] }
  | _ => none }
def sessionTwoRow : OpenClaim := { program := "ytlkhbglofkfioaagreat", sum := "4393957f89533f0e27469f18dc573a6099b3f762dcfbbe598ad467ca9f622810", func := "signpost/signpostlaw12.SessionTwo", spec := "sessionTwo", inPlace := ["internal/bytealg.MakeNoZero"], unfollowed := true, recurses := true, plainKeys := false, apart := false }
def SessionTwoSaid : Prop := sessionTwoRow.holds Tryz.pinned (OpenSpec.ofChange sessionTwoSpec)

/-- ITS FALSE NEIGHBOUR: 'it returns false'. Refute it at one input. -/
def sessionTwoWrong : ChangeSpec := { name := "sessionTwo", fn := fun _ => fun
  | [d1, d2, d3] => { results := [.lit (.bool false)], args := [d1, d2, d3] }
  | _ => none }
def SessionTwoWrongFalsely : Prop := sessionTwoRow.holds Tryz.pinned (OpenSpec.ofChange sessionTwoWrong)

/-- 'signpostlaw12.SessionWrong': WHATEVER THE INPUT: true; the input reads as it did. -/
def sessionWrongSpec : ChangeSpec := { name := "sessionWrong", fn := fun _ => fun
  | [d1, d2] => { results := [.lit (.bool true)], args := [d1, d2] }
  | _ => none }
def sessionWrongRow : OpenClaim := { program := "ytlkhbglofkfioaagreat", sum := "4393957f89533f0e27469f18dc573a6099b3f762dcfbbe598ad467ca9f622810", func := "signpost/signpostlaw12.SessionWrong", spec := "sessionWrong", inPlace := ["internal/bytealg.MakeNoZero"], unfollowed := true, recurses := true, plainKeys := false, apart := false }
def SessionWrongSaid : Prop := sessionWrongRow.holds Tryz.pinned (OpenSpec.ofChange sessionWrongSpec)

/-- ITS FALSE NEIGHBOUR: 'it returns false'. Refute it at one input. -/
def sessionWrongWrong : ChangeSpec := { name := "sessionWrong", fn := fun _ => fun
  | [d1, d2] => { results := [.lit (.bool false)], args := [d1, d2] }
  | _ => none }
def SessionWrongWrongFalsely : Prop := sessionWrongRow.holds Tryz.pinned (OpenSpec.ofChange sessionWrongWrong)

/-- 'signpostlaw12.SessionClocks': WHATEVER THE INPUT: true; the input reads as it did. -/
def sessionClocksSpec : ChangeSpec := { name := "sessionClocks", fn := fun _ => fun
  | [d1, d2] => { results := [.lit (.bool true)], args := [d1, d2] }
  | _ => none }
def sessionClocksRow : OpenClaim := { program := "ytlkhbglofkfioaagreat", sum := "4393957f89533f0e27469f18dc573a6099b3f762dcfbbe598ad467ca9f622810", func := "signpost/signpostlaw12.SessionClocks", spec := "sessionClocks", inPlace := ["internal/bytealg.MakeNoZero"], unfollowed := true, recurses := true, plainKeys := false, apart := false }
def SessionClocksSaid : Prop := sessionClocksRow.holds Tryz.pinned (OpenSpec.ofChange sessionClocksSpec)

/-- ITS FALSE NEIGHBOUR: 'it returns false'. Refute it at one input. -/
def sessionClocksWrong : ChangeSpec := { name := "sessionClocks", fn := fun _ => fun
  | [d1, d2] => { results := [.lit (.bool false)], args := [d1, d2] }
  | _ => none }
def SessionClocksWrongFalsely : Prop := sessionClocksRow.holds Tryz.pinned (OpenSpec.ofChange sessionClocksWrong)

/-- 'signpostlaw12.SessionSilent': WHATEVER THE INPUT: true; the input reads as it did. -/
def sessionSilentSpec : ChangeSpec := { name := "sessionSilent", fn := fun _ => fun
  | [d] => { results := [.lit (.bool true)], args := [d] }
  | _ => none }
def sessionSilentRow : OpenClaim := { program := "ytlkhbglofkfioaagreat", sum := "4393957f89533f0e27469f18dc573a6099b3f762dcfbbe598ad467ca9f622810", func := "signpost/signpostlaw12.SessionSilent", spec := "sessionSilent", inPlace := ["internal/bytealg.MakeNoZero"], unfollowed := true, recurses := true, plainKeys := false, apart := false }
def SessionSilentSaid : Prop := sessionSilentRow.holds Tryz.pinned (OpenSpec.ofChange sessionSilentSpec)

/-- ITS FALSE NEIGHBOUR: 'it returns false'. Refute it at one input. -/
def sessionSilentWrong : ChangeSpec := { name := "sessionSilent", fn := fun _ => fun
  | [d] => { results := [.lit (.bool false)], args := [d] }
  | _ => none }
def SessionSilentWrongFalsely : Prop := sessionSilentRow.holds Tryz.pinned (OpenSpec.ofChange sessionSilentWrong)

/-- 'signpostlaw12.SessionNumbers': WHATEVER THE INPUT: true; the input reads as it did. -/
def sessionNumbersSpec : ChangeSpec := { name := "sessionNumbers", fn := fun _ => fun
  | [] => { results := [.lit (.bool true)], args := [] }
  | _ => none }
def sessionNumbersRow : OpenClaim := { program := "ytlkhbglofkfioaagreat", sum := "4393957f89533f0e27469f18dc573a6099b3f762dcfbbe598ad467ca9f622810", func := "signpost/signpostlaw12.SessionNumbers", spec := "sessionNumbers", inPlace := ["internal/bytealg.MakeNoZero"], unfollowed := true, recurses := true, plainKeys := false, apart := false }
def SessionNumbersSaid : Prop := sessionNumbersRow.holds Tryz.pinned (OpenSpec.ofChange sessionNumbersSpec)

/-- ITS FALSE NEIGHBOUR: 'it returns false'. Refute it at one input. -/
def sessionNumbersWrong : ChangeSpec := { name := "sessionNumbers", fn := fun _ => fun
  | [] => { results := [.lit (.bool false)], args := [] }
  | _ => none }
def SessionNumbersWrongFalsely : Prop := sessionNumbersRow.holds Tryz.pinned (OpenSpec.ofChange sessionNumbersWrong)

/-- 'signpostlaw12.SessionPlays': WHATEVER THE INPUT: true; the input reads as it did. -/
def sessionPlaysSpec : ChangeSpec := { name := "sessionPlays", fn := fun _ => fun
  | [d1, d2, d3] => { results := [.lit (.bool true)], args := [d1, d2, d3] }
  | _ => none }
def sessionPlaysRow : OpenClaim := { program := "ytlkhbglofkfioaagreat", sum := "4393957f89533f0e27469f18dc573a6099b3f762dcfbbe598ad467ca9f622810", func := "signpost/signpostlaw12.SessionPlays", spec := "sessionPlays", inPlace := ["internal/bytealg.MakeNoZero"], unfollowed := true, recurses := true, plainKeys := false, apart := false }
def SessionPlaysSaid : Prop := sessionPlaysRow.holds Tryz.pinned (OpenSpec.ofChange sessionPlaysSpec)

/-- ITS FALSE NEIGHBOUR: 'it returns false'. Refute it at one input. -/
def sessionPlaysWrong : ChangeSpec := { name := "sessionPlays", fn := fun _ => fun
  | [d1, d2, d3] => { results := [.lit (.bool false)], args := [d1, d2, d3] }
  | _ => none }
def SessionPlaysWrongFalsely : Prop := sessionPlaysRow.holds Tryz.pinned (OpenSpec.ofChange sessionPlaysWrong)

/-- 'signpostlaw12.SessionEnds': WHATEVER THE INPUT: true; the input reads as it did. -/
def sessionEndsSpec : ChangeSpec := { name := "sessionEnds", fn := fun _ => fun
  | [d1, d2, d3] => { results := [.lit (.bool true)], args := [d1, d2, d3] }
  | _ => none }
def sessionEndsRow : OpenClaim := { program := "ytlkhbglofkfioaagreat", sum := "4393957f89533f0e27469f18dc573a6099b3f762dcfbbe598ad467ca9f622810", func := "signpost/signpostlaw12.SessionEnds", spec := "sessionEnds", inPlace := ["internal/bytealg.MakeNoZero"], unfollowed := true, recurses := true, plainKeys := false, apart := false }
def SessionEndsSaid : Prop := sessionEndsRow.holds Tryz.pinned (OpenSpec.ofChange sessionEndsSpec)

/-- ITS FALSE NEIGHBOUR: 'it returns false'. Refute it at one input. -/
def sessionEndsWrong : ChangeSpec := { name := "sessionEnds", fn := fun _ => fun
  | [d1, d2, d3] => { results := [.lit (.bool false)], args := [d1, d2, d3] }
  | _ => none }
def SessionEndsWrongFalsely : Prop := sessionEndsRow.holds Tryz.pinned (OpenSpec.ofChange sessionEndsWrong)

/-- 'signpostlaw23.PackNumbers': WHATEVER THE INPUT: true; the input reads as it did. -/
def packNumbersSpec : ChangeSpec := { name := "packNumbers", fn := fun _ => fun
  | [] => { results := [.lit (.bool true)], args := [] }
  | _ => none }
def packNumbersRow : OpenClaim := { program := "ytlkhbglofkfioaagreat", sum := "4393957f89533f0e27469f18dc573a6099b3f762dcfbbe598ad467ca9f622810", func := "signpost/signpostlaw23.PackNumbers", spec := "packNumbers", inPlace := ["internal/bytealg.MakeNoZero"], unfollowed := true, recurses := true, plainKeys := false, apart := false }
def PackNumbersSaid : Prop := packNumbersRow.holds Tryz.pinned (OpenSpec.ofChange packNumbersSpec)

/-- ITS FALSE NEIGHBOUR: 'it returns false'. Refute it at one input. -/
def packNumbersWrong : ChangeSpec := { name := "packNumbers", fn := fun _ => fun
  | [] => { results := [.lit (.bool false)], args := [] }
  | _ => none }
def PackNumbersWrongFalsely : Prop := packNumbersRow.holds Tryz.pinned (OpenSpec.ofChange packNumbersWrong)

/-- 'signpostlaw23.PackTells': WHATEVER THE INPUT: true; the input reads as it did. -/
def packTellsSpec : ChangeSpec := { name := "packTells", fn := fun _ => fun
  | [d1, d2, d3, d4, d5] => { results := [.lit (.bool true)], args := [d1, d2, d3, d4, d5] }
  | _ => none }
def packTellsRow : OpenClaim := { program := "ytlkhbglofkfioaagreat", sum := "4393957f89533f0e27469f18dc573a6099b3f762dcfbbe598ad467ca9f622810", func := "signpost/signpostlaw23.PackTells", spec := "packTells", inPlace := ["internal/bytealg.MakeNoZero"], unfollowed := true, recurses := true, plainKeys := false, apart := false }
def PackTellsSaid : Prop := packTellsRow.holds Tryz.pinned (OpenSpec.ofChange packTellsSpec)

/-- ITS FALSE NEIGHBOUR: 'it returns false'. Refute it at one input. -/
def packTellsWrong : ChangeSpec := { name := "packTells", fn := fun _ => fun
  | [d1, d2, d3, d4, d5] => { results := [.lit (.bool false)], args := [d1, d2, d3, d4, d5] }
  | _ => none }
def PackTellsWrongFalsely : Prop := packTellsRow.holds Tryz.pinned (OpenSpec.ofChange packTellsWrong)

/-- 'signpostlaw23.PackBack': WHATEVER THE INPUT: true; the input reads as it did. -/
def packBackSpec : ChangeSpec := { name := "packBack", fn := fun _ => fun
  | [d1, d2] => { results := [.lit (.bool true)], args := [d1, d2] }
  | _ => none }
def packBackRow : OpenClaim := { program := "ytlkhbglofkfioaagreat", sum := "4393957f89533f0e27469f18dc573a6099b3f762dcfbbe598ad467ca9f622810", func := "signpost/signpostlaw23.PackBack", spec := "packBack", inPlace := ["internal/bytealg.MakeNoZero"], unfollowed := true, recurses := true, plainKeys := false, apart := false }
def PackBackSaid : Prop := packBackRow.holds Tryz.pinned (OpenSpec.ofChange packBackSpec)

/-- ITS FALSE NEIGHBOUR: 'it returns false'. Refute it at one input. -/
def packBackWrong : ChangeSpec := { name := "packBack", fn := fun _ => fun
  | [d1, d2] => { results := [.lit (.bool false)], args := [d1, d2] }
  | _ => none }
def PackBackWrongFalsely : Prop := packBackRow.holds Tryz.pinned (OpenSpec.ofChange packBackWrong)

/-- 'signpostlaw23.PackOrder': WHATEVER THE INPUT: true; the input reads as it did. -/
def packOrderSpec : ChangeSpec := { name := "packOrder", fn := fun _ => fun
  | [d1, d2, d3] => { results := [.lit (.bool true)], args := [d1, d2, d3] }
  | _ => none }
def packOrderRow : OpenClaim := { program := "ytlkhbglofkfioaagreat", sum := "4393957f89533f0e27469f18dc573a6099b3f762dcfbbe598ad467ca9f622810", func := "signpost/signpostlaw23.PackOrder", spec := "packOrder", inPlace := ["internal/bytealg.MakeNoZero"], unfollowed := true, recurses := true, plainKeys := false, apart := false }
def PackOrderSaid : Prop := packOrderRow.holds Tryz.pinned (OpenSpec.ofChange packOrderSpec)

/-- ITS FALSE NEIGHBOUR: 'it returns false'. Refute it at one input. -/
def packOrderWrong : ChangeSpec := { name := "packOrder", fn := fun _ => fun
  | [d1, d2, d3] => { results := [.lit (.bool false)], args := [d1, d2, d3] }
  | _ => none }
def PackOrderWrongFalsely : Prop := packOrderRow.holds Tryz.pinned (OpenSpec.ofChange packOrderWrong)

/-- 'signpostlaw23.PackFull': WHATEVER THE INPUT: true; the input reads as it did. -/
def packFullSpec : ChangeSpec := { name := "packFull", fn := fun _ => fun
  | [d1, d2, d3] => { results := [.lit (.bool true)], args := [d1, d2, d3] }
  | _ => none }
def packFullRow : OpenClaim := { program := "ytlkhbglofkfioaagreat", sum := "4393957f89533f0e27469f18dc573a6099b3f762dcfbbe598ad467ca9f622810", func := "signpost/signpostlaw23.PackFull", spec := "packFull", inPlace := ["internal/bytealg.MakeNoZero"], unfollowed := true, recurses := true, plainKeys := false, apart := false }
def PackFullSaid : Prop := packFullRow.holds Tryz.pinned (OpenSpec.ofChange packFullSpec)

/-- ITS FALSE NEIGHBOUR: 'it returns false'. Refute it at one input. -/
def packFullWrong : ChangeSpec := { name := "packFull", fn := fun _ => fun
  | [d1, d2, d3] => { results := [.lit (.bool false)], args := [d1, d2, d3] }
  | _ => none }
def PackFullWrongFalsely : Prop := packFullRow.holds Tryz.pinned (OpenSpec.ofChange packFullWrong)

/- THE SECOND FORM. 'bulk': how many values and letters a reading holds, each counted each time it is reached (what is shared counts as often as it is met; a slice's spare places count too). A statement '..UptoSaid' is the law's where the arguments, and the package variables that the reading takes, are together of bulk at most 1048576: NARROWER than '..Said'. Prove '..Said' where nothing that the law and all that it calls make is longer than what came in: it says more and counts as full. Else prove '..UptoSaid'. A law counts once. -/
mutual
def uptoBulk {H : Type} : DataW H → Nat
  | .lit (.string bytes) => bytes.length + 1
  | .lit _ => 1
  | .nil => 1
  | .ptr d => uptoBulk d + 1
  | .slice elems spare => uptoBulkAll elems + uptoBulkAll spare + 1
  | .agg parts => uptoBulkAll parts + 1
  | .iface _ d => uptoBulk d + 1
  | .map entries => uptoBulkEntries entries + 1
  | .held _ => 1
def uptoBulkAll {H : Type} : List (DataW H) → Nat
  | [] => 0
  | d :: r => uptoBulk d + uptoBulkAll r
def uptoBulkEntries {H : Type} : List (Lit × DataW H) → Nat
  | [] => 0
  | x :: r => uptoBulkEntry x + uptoBulkEntries r
def uptoBulkEntry {H : Type} : Lit × DataW H → Nat
  | (.string bytes, d) => bytes.length + uptoBulk d + 1
  | (_, d) => uptoBulk d + 1
 end
def uptoSmall : (H : Type) → List (DataW H) → Bool := fun _ ds => decide (uptoBulkAll ds ≤ 1048576)
def OpenSpec.upto (s : _root_.Go.ChangeSpec) : _root_.Go.OpenSpec := { _root_.Go.OpenSpec.ofChange s with cond := some uptoSmall }

/-- 'signpostlaw21.ExportTells', WHERE WHAT IT READS IS OF BULK AT MOST 1048576: true; the input reads as it did. -/
def exportTellsUptoRow : OpenClaim := { program := "ytlkhbglofkfioaagreat", sum := "4393957f89533f0e27469f18dc573a6099b3f762dcfbbe598ad467ca9f622810", func := "signpost/signpostlaw21.ExportTells", spec := "exportTells", inPlace := ["slices.overlaps[uint32]", "slices.overlaps[signpost/api.Seg]"], unfollowed := true, recurses := true, plainKeys := false, apart := false, narrowed := true }
def ExportTellsUptoSaid : Prop := exportTellsUptoRow.holds Tryz.pinned (OpenSpec.upto exportTellsSpec)

/-- 'signpostlaw9.UpdateNumbers', WHERE WHAT IT READS IS OF BULK AT MOST 1048576: true; the input reads as it did. -/
def updateNumbersUptoRow : OpenClaim := { program := "ytlkhbglofkfioaagreat", sum := "4393957f89533f0e27469f18dc573a6099b3f762dcfbbe598ad467ca9f622810", func := "signpost/signpostlaw9.UpdateNumbers", spec := "updateNumbers", unfollowed := true, recurses := true, plainKeys := false, apart := false, narrowed := true }
def UpdateNumbersUptoSaid : Prop := updateNumbersUptoRow.holds Tryz.pinned (OpenSpec.upto updateNumbersSpec)

/-- 'signpostlaw9.UpdateBack', WHERE WHAT IT READS IS OF BULK AT MOST 1048576: true; the input reads as it did. -/
def updateBackUptoRow : OpenClaim := { program := "ytlkhbglofkfioaagreat", sum := "4393957f89533f0e27469f18dc573a6099b3f762dcfbbe598ad467ca9f622810", func := "signpost/signpostlaw9.UpdateBack", spec := "updateBack", unfollowed := true, recurses := true, plainKeys := false, apart := false, narrowed := true }
def UpdateBackUptoSaid : Prop := updateBackUptoRow.holds Tryz.pinned (OpenSpec.upto updateBackSpec)

/-- 'signpostlaw9.UpdateLengths', WHERE WHAT IT READS IS OF BULK AT MOST 1048576: true; the input reads as it did. -/
def updateLengthsUptoRow : OpenClaim := { program := "ytlkhbglofkfioaagreat", sum := "4393957f89533f0e27469f18dc573a6099b3f762dcfbbe598ad467ca9f622810", func := "signpost/signpostlaw9.UpdateLengths", spec := "updateLengths", unfollowed := true, recurses := true, plainKeys := false, apart := false, narrowed := true }
def UpdateLengthsUptoSaid : Prop := updateLengthsUptoRow.holds Tryz.pinned (OpenSpec.upto updateLengthsSpec)

/-- 'signpostlaw9.UpdateBoth', WHERE WHAT IT READS IS OF BULK AT MOST 1048576: true; the input reads as it did. -/
def updateBothUptoRow : OpenClaim := { program := "ytlkhbglofkfioaagreat", sum := "4393957f89533f0e27469f18dc573a6099b3f762dcfbbe598ad467ca9f622810", func := "signpost/signpostlaw9.UpdateBoth", spec := "updateBoth", unfollowed := true, recurses := true, plainKeys := false, apart := false, narrowed := true }
def UpdateBothUptoSaid : Prop := updateBothUptoRow.holds Tryz.pinned (OpenSpec.upto updateBothSpec)

/-- 'signpostlaw12.SessionPieces', WHERE WHAT IT READS IS OF BULK AT MOST 1048576: true; the input reads as it did. -/
def sessionPiecesUptoRow : OpenClaim := { program := "ytlkhbglofkfioaagreat", sum := "4393957f89533f0e27469f18dc573a6099b3f762dcfbbe598ad467ca9f622810", func := "signpost/signpostlaw12.SessionPieces", spec := "sessionPieces", inPlace := ["internal/bytealg.MakeNoZero"], unfollowed := true, recurses := true, plainKeys := false, apart := false, narrowed := true }
def SessionPiecesUptoSaid : Prop := sessionPiecesUptoRow.holds Tryz.pinned (OpenSpec.upto sessionPiecesSpec)

/-- 'signpostlaw12.SessionTwo', WHERE WHAT IT READS IS OF BULK AT MOST 1048576: true; the input reads as it did. -/
def sessionTwoUptoRow : OpenClaim := { program := "ytlkhbglofkfioaagreat", sum := "4393957f89533f0e27469f18dc573a6099b3f762dcfbbe598ad467ca9f622810", func := "signpost/signpostlaw12.SessionTwo", spec := "sessionTwo", inPlace := ["internal/bytealg.MakeNoZero"], unfollowed := true, recurses := true, plainKeys := false, apart := false, narrowed := true }
def SessionTwoUptoSaid : Prop := sessionTwoUptoRow.holds Tryz.pinned (OpenSpec.upto sessionTwoSpec)

/-- 'signpostlaw12.SessionWrong', WHERE WHAT IT READS IS OF BULK AT MOST 1048576: true; the input reads as it did. -/
def sessionWrongUptoRow : OpenClaim := { program := "ytlkhbglofkfioaagreat", sum := "4393957f89533f0e27469f18dc573a6099b3f762dcfbbe598ad467ca9f622810", func := "signpost/signpostlaw12.SessionWrong", spec := "sessionWrong", inPlace := ["internal/bytealg.MakeNoZero"], unfollowed := true, recurses := true, plainKeys := false, apart := false, narrowed := true }
def SessionWrongUptoSaid : Prop := sessionWrongUptoRow.holds Tryz.pinned (OpenSpec.upto sessionWrongSpec)

/-- 'signpostlaw12.SessionClocks', WHERE WHAT IT READS IS OF BULK AT MOST 1048576: true; the input reads as it did. -/
def sessionClocksUptoRow : OpenClaim := { program := "ytlkhbglofkfioaagreat", sum := "4393957f89533f0e27469f18dc573a6099b3f762dcfbbe598ad467ca9f622810", func := "signpost/signpostlaw12.SessionClocks", spec := "sessionClocks", inPlace := ["internal/bytealg.MakeNoZero"], unfollowed := true, recurses := true, plainKeys := false, apart := false, narrowed := true }
def SessionClocksUptoSaid : Prop := sessionClocksUptoRow.holds Tryz.pinned (OpenSpec.upto sessionClocksSpec)

/-- 'signpostlaw12.SessionSilent', WHERE WHAT IT READS IS OF BULK AT MOST 1048576: true; the input reads as it did. -/
def sessionSilentUptoRow : OpenClaim := { program := "ytlkhbglofkfioaagreat", sum := "4393957f89533f0e27469f18dc573a6099b3f762dcfbbe598ad467ca9f622810", func := "signpost/signpostlaw12.SessionSilent", spec := "sessionSilent", inPlace := ["internal/bytealg.MakeNoZero"], unfollowed := true, recurses := true, plainKeys := false, apart := false, narrowed := true }
def SessionSilentUptoSaid : Prop := sessionSilentUptoRow.holds Tryz.pinned (OpenSpec.upto sessionSilentSpec)

/-- 'signpostlaw12.SessionNumbers', WHERE WHAT IT READS IS OF BULK AT MOST 1048576: true; the input reads as it did. -/
def sessionNumbersUptoRow : OpenClaim := { program := "ytlkhbglofkfioaagreat", sum := "4393957f89533f0e27469f18dc573a6099b3f762dcfbbe598ad467ca9f622810", func := "signpost/signpostlaw12.SessionNumbers", spec := "sessionNumbers", inPlace := ["internal/bytealg.MakeNoZero"], unfollowed := true, recurses := true, plainKeys := false, apart := false, narrowed := true }
def SessionNumbersUptoSaid : Prop := sessionNumbersUptoRow.holds Tryz.pinned (OpenSpec.upto sessionNumbersSpec)

/-- 'signpostlaw12.SessionPlays', WHERE WHAT IT READS IS OF BULK AT MOST 1048576: true; the input reads as it did. -/
def sessionPlaysUptoRow : OpenClaim := { program := "ytlkhbglofkfioaagreat", sum := "4393957f89533f0e27469f18dc573a6099b3f762dcfbbe598ad467ca9f622810", func := "signpost/signpostlaw12.SessionPlays", spec := "sessionPlays", inPlace := ["internal/bytealg.MakeNoZero"], unfollowed := true, recurses := true, plainKeys := false, apart := false, narrowed := true }
def SessionPlaysUptoSaid : Prop := sessionPlaysUptoRow.holds Tryz.pinned (OpenSpec.upto sessionPlaysSpec)

/-- 'signpostlaw12.SessionEnds', WHERE WHAT IT READS IS OF BULK AT MOST 1048576: true; the input reads as it did. -/
def sessionEndsUptoRow : OpenClaim := { program := "ytlkhbglofkfioaagreat", sum := "4393957f89533f0e27469f18dc573a6099b3f762dcfbbe598ad467ca9f622810", func := "signpost/signpostlaw12.SessionEnds", spec := "sessionEnds", inPlace := ["internal/bytealg.MakeNoZero"], unfollowed := true, recurses := true, plainKeys := false, apart := false, narrowed := true }
def SessionEndsUptoSaid : Prop := sessionEndsUptoRow.holds Tryz.pinned (OpenSpec.upto sessionEndsSpec)

/-- 'signpostlaw23.PackNumbers', WHERE WHAT IT READS IS OF BULK AT MOST 1048576: true; the input reads as it did. -/
def packNumbersUptoRow : OpenClaim := { program := "ytlkhbglofkfioaagreat", sum := "4393957f89533f0e27469f18dc573a6099b3f762dcfbbe598ad467ca9f622810", func := "signpost/signpostlaw23.PackNumbers", spec := "packNumbers", inPlace := ["internal/bytealg.MakeNoZero"], unfollowed := true, recurses := true, plainKeys := false, apart := false, narrowed := true }
def PackNumbersUptoSaid : Prop := packNumbersUptoRow.holds Tryz.pinned (OpenSpec.upto packNumbersSpec)

/-- 'signpostlaw23.PackTells', WHERE WHAT IT READS IS OF BULK AT MOST 1048576: true; the input reads as it did. -/
def packTellsUptoRow : OpenClaim := { program := "ytlkhbglofkfioaagreat", sum := "4393957f89533f0e27469f18dc573a6099b3f762dcfbbe598ad467ca9f622810", func := "signpost/signpostlaw23.PackTells", spec := "packTells", inPlace := ["internal/bytealg.MakeNoZero"], unfollowed := true, recurses := true, plainKeys := false, apart := false, narrowed := true }
def PackTellsUptoSaid : Prop := packTellsUptoRow.holds Tryz.pinned (OpenSpec.upto packTellsSpec)

/-- 'signpostlaw23.PackBack', WHERE WHAT IT READS IS OF BULK AT MOST 1048576: true; the input reads as it did. -/
def packBackUptoRow : OpenClaim := { program := "ytlkhbglofkfioaagreat", sum := "4393957f89533f0e27469f18dc573a6099b3f762dcfbbe598ad467ca9f622810", func := "signpost/signpostlaw23.PackBack", spec := "packBack", inPlace := ["internal/bytealg.MakeNoZero"], unfollowed := true, recurses := true, plainKeys := false, apart := false, narrowed := true }
def PackBackUptoSaid : Prop := packBackUptoRow.holds Tryz.pinned (OpenSpec.upto packBackSpec)

/-- 'signpostlaw23.PackOrder', WHERE WHAT IT READS IS OF BULK AT MOST 1048576: true; the input reads as it did. -/
def packOrderUptoRow : OpenClaim := { program := "ytlkhbglofkfioaagreat", sum := "4393957f89533f0e27469f18dc573a6099b3f762dcfbbe598ad467ca9f622810", func := "signpost/signpostlaw23.PackOrder", spec := "packOrder", inPlace := ["internal/bytealg.MakeNoZero"], unfollowed := true, recurses := true, plainKeys := false, apart := false, narrowed := true }
def PackOrderUptoSaid : Prop := packOrderUptoRow.holds Tryz.pinned (OpenSpec.upto packOrderSpec)

/-- 'signpostlaw23.PackFull', WHERE WHAT IT READS IS OF BULK AT MOST 1048576: true; the input reads as it did. -/
def packFullUptoRow : OpenClaim := { program := "ytlkhbglofkfioaagreat", sum := "4393957f89533f0e27469f18dc573a6099b3f762dcfbbe598ad467ca9f622810", func := "signpost/signpostlaw23.PackFull", spec := "packFull", inPlace := ["internal/bytealg.MakeNoZero"], unfollowed := true, recurses := true, plainKeys := false, apart := false, narrowed := true }
def PackFullUptoSaid : Prop := packFullUptoRow.holds Tryz.pinned (OpenSpec.upto packFullSpec)

end Rows
end Go.Proofs.YtlkhbglofkfioaaGreat
