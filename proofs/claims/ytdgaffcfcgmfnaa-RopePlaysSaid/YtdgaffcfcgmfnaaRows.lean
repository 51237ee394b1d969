/-
  No cell of these rows narrows 'for every input' (looked for: loops, veiled, ifaces, maps, wideKeys, modest, calm, conditions, laid).
  DERIVED. THE GIVEN ROWS OF THIS SEAT. 10 by the template 'for every input the law returns true; each argument reads behind the call as it read before'; 0 by the template 'total and deterministic' (their statements: YtdgaffcfcgmfnaaTotals.lean).
  GIVEN WITH THE SEED: the statements are not yours to turn. If you find one false, say at which input.
  Laid BY PROGRAM, IN A SANDBOX (cutbox-rows.mjs): the forced cells as the released guide's own fill.sh prints them over the translation 38f08be41cadff8a… (all of the seat's roots in one cut). By AI agents, Wed Nov 11 2026. No macro, syntax, notation, axiom, sorry.
-/
import Derived.Test.YtdgaffcfcgmfnaaChecked
import GoSem.Claim
import GoSem.ClaimJoined
import GoSem.ClaimMapViews
import Derived.JoinedTies
import Derived.KernelRfl
namespace Go.Proofs.Ytdgaffcfcgmfnaa
/- THE CELL 'sum', in the pinned program and in every row, IS THE sha256 OF THE DUMP (.gsa) THAT YtdgaffcfcgmfnaaProg.lean LOADS. Nothing in Lean hashes anything: it is a label: what it is worth is what the hold of that sum in a sandbox is worth. -/
noncomputable def Try.pinned : Pinned := { name := "ytdgaffcfcgmfnaa", sum := "38f08be41cadff8a449546a81cfa9ddd1233f11b6c03b5b9badfecf9a308378b", checked := Try.checked }
namespace Rows
def none {H : Type} : Left H := { results := [], args := [] }

/-- 'sealskinlaw04.RopeTurned': WHATEVER THE INPUT: true; the input reads as it did. -/
def ropeTurnedSpec : ChangeSpec := { name := "ropeTurned", fn := fun _ => fun
  | [d1, d2, d3] => { results := [.lit (.bool true)], args := [d1, d2, d3] }
  | _ => none }
def ropeTurnedRow : OpenClaim := { program := "ytdgaffcfcgmfnaa", sum := "38f08be41cadff8a449546a81cfa9ddd1233f11b6c03b5b9badfecf9a308378b", func := "sealskin/sealskinlaw04.RopeTurned", spec := "ropeTurned", inPlace := ["slices.overlaps[sealskin/api.Elem]", "slices.overlaps[int]"], unfollowed := true, recurses := true, apart := false }
def RopeTurnedSaid : Prop := ropeTurnedRow.holds Try.pinned (OpenSpec.ofChange ropeTurnedSpec)

/-- ITS FALSE NEIGHBOUR: 'it returns false'. Refute it at one input. -/
def ropeTurnedWrong : ChangeSpec := { name := "ropeTurned", fn := fun _ => fun
  | [d1, d2, d3] => { results := [.lit (.bool false)], args := [d1, d2, d3] }
  | _ => none }
def RopeTurnedWrongFalsely : Prop := ropeTurnedRow.holds Try.pinned (OpenSpec.ofChange ropeTurnedWrong)

/-- 'sealskinlaw04.RopeCounts': WHATEVER THE INPUT: true; the input reads as it did. -/
def ropeCountsSpec : ChangeSpec := { name := "ropeCounts", fn := fun _ => fun
  | [d1, d2] => { results := [.lit (.bool true)], args := [d1, d2] }
  | _ => none }
def ropeCountsRow : OpenClaim := { program := "ytdgaffcfcgmfnaa", sum := "38f08be41cadff8a449546a81cfa9ddd1233f11b6c03b5b9badfecf9a308378b", func := "sealskin/sealskinlaw04.RopeCounts", spec := "ropeCounts", inPlace := ["slices.overlaps[sealskin/api.Elem]", "slices.overlaps[int]"], unfollowed := true, recurses := true, apart := false }
def RopeCountsSaid : Prop := ropeCountsRow.holds Try.pinned (OpenSpec.ofChange ropeCountsSpec)

/-- ITS FALSE NEIGHBOUR: 'it returns false'. Refute it at one input. -/
def ropeCountsWrong : ChangeSpec := { name := "ropeCounts", fn := fun _ => fun
  | [d1, d2] => { results := [.lit (.bool false)], args := [d1, d2] }
  | _ => none }
def RopeCountsWrongFalsely : Prop := ropeCountsRow.holds Try.pinned (OpenSpec.ofChange ropeCountsWrong)

/-- 'sealskinlaw04.RopeRefused': WHATEVER THE INPUT: true; the input reads as it did. -/
def ropeRefusedSpec : ChangeSpec := { name := "ropeRefused", fn := fun _ => fun
  | [d1, d2, d3] => { results := [.lit (.bool true)], args := [d1, d2, d3] }
  | _ => none }
def ropeRefusedRow : OpenClaim := { program := "ytdgaffcfcgmfnaa", sum := "38f08be41cadff8a449546a81cfa9ddd1233f11b6c03b5b9badfecf9a308378b", func := "sealskin/sealskinlaw04.RopeRefused", spec := "ropeRefused", inPlace := ["slices.overlaps[sealskin/api.Elem]", "slices.overlaps[int]"], unfollowed := true, recurses := true, apart := false }
def RopeRefusedSaid : Prop := ropeRefusedRow.holds Try.pinned (OpenSpec.ofChange ropeRefusedSpec)

/-- ITS FALSE NEIGHBOUR: 'it returns false'. Refute it at one input. -/
def ropeRefusedWrong : ChangeSpec := { name := "ropeRefused", fn := fun _ => fun
  | [d1, d2, d3] => { results := [.lit (.bool false)], args := [d1, d2, d3] }
  | _ => none }
def RopeRefusedWrongFalsely : Prop := ropeRefusedRow.holds Try.pinned (OpenSpec.ofChange ropeRefusedWrong)

/-- 'sealskinlaw04.RopeBack': WHATEVER THE INPUT: true; the input reads as it did. -/
def ropeBackSpec : ChangeSpec := { name := "ropeBack", fn := fun _ => fun
  | [d1, d2, d3, d4, d5] => { results := [.lit (.bool true)], args := [d1, d2, d3, d4, d5] }
  | _ => none }
def ropeBackRow : OpenClaim := { program := "ytdgaffcfcgmfnaa", sum := "38f08be41cadff8a449546a81cfa9ddd1233f11b6c03b5b9badfecf9a308378b", func := "sealskin/sealskinlaw04.RopeBack", spec := "ropeBack", inPlace := ["slices.overlaps[sealskin/api.Elem]", "slices.overlaps[int]"], unfollowed := true, recurses := true, apart := false }
def RopeBackSaid : Prop := ropeBackRow.holds Try.pinned (OpenSpec.ofChange ropeBackSpec)

/-- ITS FALSE NEIGHBOUR: 'it returns false'. Refute it at one input. -/
def ropeBackWrong : ChangeSpec := { name := "ropeBack", fn := fun _ => fun
  | [d1, d2, d3, d4, d5] => { results := [.lit (.bool false)], args := [d1, d2, d3, d4, d5] }
  | _ => none }
def RopeBackWrongFalsely : Prop := ropeBackRow.holds Try.pinned (OpenSpec.ofChange ropeBackWrong)

/-- 'sealskinlaw04.RopePlays': WHATEVER THE INPUT: true; the input reads as it did. -/
def ropePlaysSpec : ChangeSpec := { name := "ropePlays", fn := fun _ => fun
  | [d1, d2] => { results := [.lit (.bool true)], args := [d1, d2] }
  | _ => none }
def ropePlaysRow : OpenClaim := { program := "ytdgaffcfcgmfnaa", sum := "38f08be41cadff8a449546a81cfa9ddd1233f11b6c03b5b9badfecf9a308378b", func := "sealskin/sealskinlaw04.RopePlays", spec := "ropePlays", inPlace := ["slices.overlaps[sealskin/api.Elem]", "slices.overlaps[int]"], unfollowed := true, recurses := true, apart := false }
def RopePlaysSaid : Prop := ropePlaysRow.holds Try.pinned (OpenSpec.ofChange ropePlaysSpec)

/-- ITS FALSE NEIGHBOUR: 'it returns false'. Refute it at one input. -/
def ropePlaysWrong : ChangeSpec := { name := "ropePlays", fn := fun _ => fun
  | [d1, d2] => { results := [.lit (.bool false)], args := [d1, d2] }
  | _ => none }
def RopePlaysWrongFalsely : Prop := ropePlaysRow.holds Try.pinned (OpenSpec.ofChange ropePlaysWrong)

/-- 'sealskinlaw04.RopePlaces': WHATEVER THE INPUT: true; the input reads as it did. -/
def ropePlacesSpec : ChangeSpec := { name := "ropePlaces", fn := fun _ => fun
  | [d1, d2, d3, d4] => { results := [.lit (.bool true)], args := [d1, d2, d3, d4] }
  | _ => none }
def ropePlacesRow : OpenClaim := { program := "ytdgaffcfcgmfnaa", sum := "38f08be41cadff8a449546a81cfa9ddd1233f11b6c03b5b9badfecf9a308378b", func := "sealskin/sealskinlaw04.RopePlaces", spec := "ropePlaces", inPlace := ["slices.overlaps[sealskin/api.Elem]", "slices.overlaps[int]"], unfollowed := true, recurses := true, apart := false }
def RopePlacesSaid : Prop := ropePlacesRow.holds Try.pinned (OpenSpec.ofChange ropePlacesSpec)

/-- ITS FALSE NEIGHBOUR: 'it returns false'. Refute it at one input. -/
def ropePlacesWrong : ChangeSpec := { name := "ropePlaces", fn := fun _ => fun
  | [d1, d2, d3, d4] => { results := [.lit (.bool false)], args := [d1, d2, d3, d4] }
  | _ => none }
def RopePlacesWrongFalsely : Prop := ropePlacesRow.holds Try.pinned (OpenSpec.ofChange ropePlacesWrong)

/-- 'sealskinlaw04.RopeLeft': WHATEVER THE INPUT: true; the input reads as it did. -/
def ropeLeftSpec : ChangeSpec := { name := "ropeLeft", fn := fun _ => fun
  | [d1, d2, d3, d4, d5] => { results := [.lit (.bool true)], args := [d1, d2, d3, d4, d5] }
  | _ => none }
def ropeLeftRow : OpenClaim := { program := "ytdgaffcfcgmfnaa", sum := "38f08be41cadff8a449546a81cfa9ddd1233f11b6c03b5b9badfecf9a308378b", func := "sealskin/sealskinlaw04.RopeLeft", spec := "ropeLeft", inPlace := ["slices.overlaps[sealskin/api.Elem]", "slices.overlaps[int]"], unfollowed := true, recurses := true, apart := false }
def RopeLeftSaid : Prop := ropeLeftRow.holds Try.pinned (OpenSpec.ofChange ropeLeftSpec)

/-- ITS FALSE NEIGHBOUR: 'it returns false'. Refute it at one input. -/
def ropeLeftWrong : ChangeSpec := { name := "ropeLeft", fn := fun _ => fun
  | [d1, d2, d3, d4, d5] => { results := [.lit (.bool false)], args := [d1, d2, d3, d4, d5] }
  | _ => none }
def RopeLeftWrongFalsely : Prop := ropeLeftRow.holds Try.pinned (OpenSpec.ofChange ropeLeftWrong)

/-- 'sealskinlaw04.RopeTwins': WHATEVER THE INPUT: true; the input reads as it did. -/
def ropeTwinsSpec : ChangeSpec := { name := "ropeTwins", fn := fun _ => fun
  | [d1, d2, d3, d4] => { results := [.lit (.bool true)], args := [d1, d2, d3, d4] }
  | _ => none }
def ropeTwinsRow : OpenClaim := { program := "ytdgaffcfcgmfnaa", sum := "38f08be41cadff8a449546a81cfa9ddd1233f11b6c03b5b9badfecf9a308378b", func := "sealskin/sealskinlaw04.RopeTwins", spec := "ropeTwins", inPlace := ["slices.overlaps[sealskin/api.Elem]", "slices.overlaps[int]"], unfollowed := true, recurses := true, apart := false }
def RopeTwinsSaid : Prop := ropeTwinsRow.holds Try.pinned (OpenSpec.ofChange ropeTwinsSpec)

/-- ITS FALSE NEIGHBOUR: 'it returns false'. Refute it at one input. -/
def ropeTwinsWrong : ChangeSpec := { name := "ropeTwins", fn := fun _ => fun
  | [d1, d2, d3, d4] => { results := [.lit (.bool false)], args := [d1, d2, d3, d4] }
  | _ => none }
def RopeTwinsWrongFalsely : Prop := ropeTwinsRow.holds Try.pinned (OpenSpec.ofChange ropeTwinsWrong)

/-- 'sealskinlaw04.RopeSight': WHATEVER THE INPUT: true; the input reads as it did. -/
def ropeSightSpec : ChangeSpec := { name := "ropeSight", fn := fun _ => fun
  | [d1, d2, d3, d4] => { results := [.lit (.bool true)], args := [d1, d2, d3, d4] }
  | _ => none }
def ropeSightRow : OpenClaim := { program := "ytdgaffcfcgmfnaa", sum := "38f08be41cadff8a449546a81cfa9ddd1233f11b6c03b5b9badfecf9a308378b", func := "sealskin/sealskinlaw04.RopeSight", spec := "ropeSight", inPlace := ["slices.overlaps[sealskin/api.Elem]", "slices.overlaps[int]"], unfollowed := true, recurses := true, apart := false }
def RopeSightSaid : Prop := ropeSightRow.holds Try.pinned (OpenSpec.ofChange ropeSightSpec)

/-- ITS FALSE NEIGHBOUR: 'it returns false'. Refute it at one input. -/
def ropeSightWrong : ChangeSpec := { name := "ropeSight", fn := fun _ => fun
  | [d1, d2, d3, d4] => { results := [.lit (.bool false)], args := [d1, d2, d3, d4] }
  | _ => none }
def RopeSightWrongFalsely : Prop := ropeSightRow.holds Try.pinned (OpenSpec.ofChange ropeSightWrong)

/-- 'sealskinlaw04.RopeNobody': WHATEVER THE INPUT: true; the input reads as it did. -/
def ropeNobodySpec : ChangeSpec := { name := "ropeNobody", fn := fun _ => fun
  | [d1, d2, d3] => { results := [.lit (.bool true)], args := [d1, d2, d3] }
  | _ => none }
def ropeNobodyRow : OpenClaim := { program := "ytdgaffcfcgmfnaa", sum := "38f08be41cadff8a449546a81cfa9ddd1233f11b6c03b5b9badfecf9a308378b", func := "sealskin/sealskinlaw04.RopeNobody", spec := "ropeNobody", inPlace := ["slices.overlaps[sealskin/api.Elem]", "slices.overlaps[int]"], unfollowed := true, recurses := true, apart := false }
def RopeNobodySaid : Prop := ropeNobodyRow.holds Try.pinned (OpenSpec.ofChange ropeNobodySpec)

/-- ITS FALSE NEIGHBOUR: 'it returns false'. Refute it at one input. -/
def ropeNobodyWrong : ChangeSpec := { name := "ropeNobody", fn := fun _ => fun
  | [d1, d2, d3] => { results := [.lit (.bool false)], args := [d1, d2, d3] }
  | _ => none }
def RopeNobodyWrongFalsely : Prop := ropeNobodyRow.holds Try.pinned (OpenSpec.ofChange ropeNobodyWrong)

/- THE SECOND FORM. 'bulk': how many values and letters a reading holds, each counted each time it is reached (what is shared counts as often as it is met; a slice's spare places count too). A statement '..UptoSaid' is the law's where the arguments, and the package variables that the reading takes, are together of bulk at most 1048576: NARROWER than '..Said'. Prove '..Said' where nothing that the law and all that it calls make is longer than what came in: it says more and counts as full. Else prove '..UptoSaid'. A law counts once. -/
mutual
def uptoBulk {H : Type} : DataW H → Nat
  | .lit (.string bytes) => bytes.length + 1
  | .lit _ => 1
  | .nil => 1
  | .ptr d => uptoBulk d + 1
  | .slice elems spare => uptoBulkAll elems + uptoBulkAll spare + 1
  | .agg parts => uptoBulkAll parts + 1
  | .iface _ d => uptoBulk d + 1
  | .map entries => uptoBulkEntries entries + 1
  | .held _ => 1
def uptoBulkAll {H : Type} : List (DataW H) → Nat
  | [] => 0
  | d :: r => uptoBulk d + uptoBulkAll r
def uptoBulkEntries {H : Type} : List (Lit × DataW H) → Nat
  | [] => 0
  | x :: r => uptoBulkEntry x + uptoBulkEntries r
def uptoBulkEntry {H : Type} : Lit × DataW H → Nat
  | (.string bytes, d) => bytes.length + uptoBulk d + 1
  | (_, d) => uptoBulk d + 1
 end
def uptoSmall : (H : Type) → List (DataW H) → Bool := fun _ ds => decide (uptoBulkAll ds ≤ 1048576)
def OpenSpec.upto (s : _root_.Go.ChangeSpec) : _root_.Go.OpenSpec := { _root_.Go.OpenSpec.ofChange s with cond := some uptoSmall }

/-- 'sealskinlaw04.RopeTurned', WHERE WHAT IT READS IS OF BULK AT MOST 1048576: true; the input reads as it did. -/
def ropeTurnedUptoRow : OpenClaim := { program := "ytdgaffcfcgmfnaa", sum := "38f08be41cadff8a449546a81cfa9ddd1233f11b6c03b5b9badfecf9a308378b", func := "sealskin/sealskinlaw04.RopeTurned", spec := "ropeTurned", inPlace := ["slices.overlaps[sealskin/api.Elem]", "slices.overlaps[int]"], unfollowed := true, recurses := true, apart := false, narrowed := true }
def RopeTurnedUptoSaid : Prop := ropeTurnedUptoRow.holds Try.pinned (OpenSpec.upto ropeTurnedSpec)

/-- 'sealskinlaw04.RopeCounts', WHERE WHAT IT READS IS OF BULK AT MOST 1048576: true; the input reads as it did. -/
def ropeCountsUptoRow : OpenClaim := { program := "ytdgaffcfcgmfnaa", sum := "38f08be41cadff8a449546a81cfa9ddd1233f11b6c03b5b9badfecf9a308378b", func := "sealskin/sealskinlaw04.RopeCounts", spec := "ropeCounts", inPlace := ["slices.overlaps[sealskin/api.Elem]", "slices.overlaps[int]"], unfollowed := true, recurses := true, apart := false, narrowed := true }
def RopeCountsUptoSaid : Prop := ropeCountsUptoRow.holds Try.pinned (OpenSpec.upto ropeCountsSpec)

/-- 'sealskinlaw04.RopeRefused', WHERE WHAT IT READS IS OF BULK AT MOST 1048576: true; the input reads as it did. -/
def ropeRefusedUptoRow : OpenClaim := { program := "ytdgaffcfcgmfnaa", sum := "38f08be41cadff8a449546a81cfa9ddd1233f11b6c03b5b9badfecf9a308378b", func := "sealskin/sealskinlaw04.RopeRefused", spec := "ropeRefused", inPlace := ["slices.overlaps[sealskin/api.Elem]", "slices.overlaps[int]"], unfollowed := true, recurses := true, apart := false, narrowed := true }
def RopeRefusedUptoSaid : Prop := ropeRefusedUptoRow.holds Try.pinned (OpenSpec.upto ropeRefusedSpec)

/-- 'sealskinlaw04.RopeBack', WHERE WHAT IT READS IS OF BULK AT MOST 1048576: true; the input reads as it did. -/
def ropeBackUptoRow : OpenClaim := { program := "ytdgaffcfcgmfnaa", sum := "38f08be41cadff8a449546a81cfa9ddd1233f11b6c03b5b9badfecf9a308378b", func := "sealskin/sealskinlaw04.RopeBack", spec := "ropeBack", inPlace := ["slices.overlaps[sealskin/api.Elem]", "slices.overlaps[int]"], unfollowed := true, recurses := true, apart := false, narrowed := true }
def RopeBackUptoSaid : Prop := ropeBackUptoRow.holds Try.pinned (OpenSpec.upto ropeBackSpec)

/-- 'sealskinlaw04.RopePlays', WHERE WHAT IT READS IS OF BULK AT MOST 1048576: true; the input reads as it did. -/
def ropePlaysUptoRow : OpenClaim := { program := "ytdgaffcfcgmfnaa", sum := "38f08be41cadff8a449546a81cfa9ddd1233f11b6c03b5b9badfecf9a308378b", func := "sealskin/sealskinlaw04.RopePlays", spec := "ropePlays", inPlace := ["slices.overlaps[sealskin/api.Elem]", "slices.overlaps[int]"], unfollowed := true, recurses := true, apart := false, narrowed := true }
def RopePlaysUptoSaid : Prop := ropePlaysUptoRow.holds Try.pinned (OpenSpec.upto ropePlaysSpec)

/-- 'sealskinlaw04.RopePlaces', WHERE WHAT IT READS IS OF BULK AT MOST 1048576: true; the input reads as it did. -/
def ropePlacesUptoRow : OpenClaim := { program := "ytdgaffcfcgmfnaa", sum := "38f08be41cadff8a449546a81cfa9ddd1233f11b6c03b5b9badfecf9a308378b", func := "sealskin/sealskinlaw04.RopePlaces", spec := "ropePlaces", inPlace := ["slices.overlaps[sealskin/api.Elem]", "slices.overlaps[int]"], unfollowed := true, recurses := true, apart := false, narrowed := true }
def RopePlacesUptoSaid : Prop := ropePlacesUptoRow.holds Try.pinned (OpenSpec.upto ropePlacesSpec)

/-- 'sealskinlaw04.RopeLeft', WHERE WHAT IT READS IS OF BULK AT MOST 1048576: true; the input reads as it did. -/
def ropeLeftUptoRow : OpenClaim := { program := "ytdgaffcfcgmfnaa", sum := "38f08be41cadff8a449546a81cfa9ddd1233f11b6c03b5b9badfecf9a308378b", func := "sealskin/sealskinlaw04.RopeLeft", spec := "ropeLeft", inPlace := ["slices.overlaps[sealskin/api.Elem]", "slices.overlaps[int]"], unfollowed := true, recurses := true, apart := false, narrowed := true }
def RopeLeftUptoSaid : Prop := ropeLeftUptoRow.holds Try.pinned (OpenSpec.upto ropeLeftSpec)

/-- 'sealskinlaw04.RopeTwins', WHERE WHAT IT READS IS OF BULK AT MOST 1048576: true; the input reads as it did. -/
def ropeTwinsUptoRow : OpenClaim := { program := "ytdgaffcfcgmfnaa", sum := "38f08be41cadff8a449546a81cfa9ddd1233f11b6c03b5b9badfecf9a308378b", func := "sealskin/sealskinlaw04.RopeTwins", spec := "ropeTwins", inPlace := ["slices.overlaps[sealskin/api.Elem]", "slices.overlaps[int]"], unfollowed := true, recurses := true, apart := false, narrowed := true }
def RopeTwinsUptoSaid : Prop := ropeTwinsUptoRow.holds Try.pinned (OpenSpec.upto ropeTwinsSpec)

/-- 'sealskinlaw04.RopeSight', WHERE WHAT IT READS IS OF BULK AT MOST 1048576: true; the input reads as it did. -/
def ropeSightUptoRow : OpenClaim := { program := "ytdgaffcfcgmfnaa", sum := "38f08be41cadff8a449546a81cfa9ddd1233f11b6c03b5b9badfecf9a308378b", func := "sealskin/sealskinlaw04.RopeSight", spec := "ropeSight", inPlace := ["slices.overlaps[sealskin/api.Elem]", "slices.overlaps[int]"], unfollowed := true, recurses := true, apart := false, narrowed := true }
def RopeSightUptoSaid : Prop := ropeSightUptoRow.holds Try.pinned (OpenSpec.upto ropeSightSpec)

/-- 'sealskinlaw04.RopeNobody', WHERE WHAT IT READS IS OF BULK AT MOST 1048576: true; the input reads as it did. -/
def ropeNobodyUptoRow : OpenClaim := { program := "ytdgaffcfcgmfnaa", sum := "38f08be41cadff8a449546a81cfa9ddd1233f11b6c03b5b9badfecf9a308378b", func := "sealskin/sealskinlaw04.RopeNobody", spec := "ropeNobody", inPlace := ["slices.overlaps[sealskin/api.Elem]", "slices.overlaps[int]"], unfollowed := true, recurses := true, apart := false, narrowed := true }
def RopeNobodyUptoSaid : Prop := ropeNobodyUptoRow.holds Try.pinned (OpenSpec.upto ropeNobodySpec)

end Rows
end Go.Proofs.Ytdgaffcfcgmfnaa
