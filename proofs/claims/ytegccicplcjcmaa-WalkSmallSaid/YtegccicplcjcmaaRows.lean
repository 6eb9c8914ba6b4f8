/-
  No cell of these rows narrows 'for every input' (looked for: loops, veiled, ifaces, maps, wideKeys, modest, calm, conditions, laid).
  DERIVED. THE GIVEN ROWS OF THIS SEAT. 5 by the template 'for every input the law returns true; each argument reads behind the call as it read before'; 0 by the template 'total and deterministic' (their statements: YtegccicplcjcmaaTotals.lean).
  GIVEN WITH THE SEED: the statements are not yours to turn. If you find one false, say at which input.
  Laid BY PROGRAM, IN A SANDBOX (cutbox-rows.mjs): the forced cells as the released guide's own fill.sh prints them over the translation 70af2f3e5fc65bbf… (all of the seat's roots in one cut). By AI agents, Wed Nov 11 2026. No macro, syntax, notation, axiom, sorry.
-/
import Derived.Test.YtegccicplcjcmaaChecked
import GoSem.Claim
import GoSem.ClaimJoined
import GoSem.ClaimMapViews
import Derived.JoinedTies
import Derived.KernelRfl
namespace Go.Proofs.Ytegccicplcjcmaa
/- THE CELL 'sum', in the pinned program and in every row, IS THE sha256 OF THE DUMP (.gsa) THAT YtegccicplcjcmaaProg.lean LOADS. Nothing in Lean hashes anything: it is a label: what it is worth is what the hold of that sum in a sandbox is worth. -/
noncomputable def Try.pinned : Pinned := { name := "ytegccicplcjcmaa", sum := "70af2f3e5fc65bbf93bc10e2b2007b4d7fca8ec8c512b0c2778b35bf3f3012b5", checked := Try.checked }
namespace Rows
def none {H : Type} : Left H := { results := [], args := [] }

/-- 'burgagelaw12.WalkSmall': WHATEVER THE INPUT: true; the input reads as it did. -/
def walkSmallSpec : ChangeSpec := { name := "walkSmall", fn := fun _ => fun
  | [] => { results := [.lit (.bool true)], args := [] }
  | _ => none }
def walkSmallRow : OpenClaim := { program := "ytegccicplcjcmaa", sum := "70af2f3e5fc65bbf93bc10e2b2007b4d7fca8ec8c512b0c2778b35bf3f3012b5", func := "burgage/burgagelaw12.WalkSmall", spec := "walkSmall", inPlace := ["slices.overlaps[string]"], unfollowed := true, recurses := true, apart := false }
def WalkSmallSaid : Prop := walkSmallRow.holds Try.pinned (OpenSpec.ofChange walkSmallSpec)

/-- ITS FALSE NEIGHBOUR: 'it returns false'. Refute it at one input. -/
def walkSmallWrong : ChangeSpec := { name := "walkSmall", fn := fun _ => fun
  | [] => { results := [.lit (.bool false)], args := [] }
  | _ => none }
def WalkSmallWrongFalsely : Prop := walkSmallRow.holds Try.pinned (OpenSpec.ofChange walkSmallWrong)

/-- 'burgagelaw12.WalkGoes': WHATEVER THE INPUT: true; the input reads as it did. -/
def walkGoesSpec : ChangeSpec := { name := "walkGoes", fn := fun _ => fun
  | [d1, d2, d3] => { results := [.lit (.bool true)], args := [d1, d2, d3] }
  | _ => none }
def walkGoesRow : OpenClaim := { program := "ytegccicplcjcmaa", sum := "70af2f3e5fc65bbf93bc10e2b2007b4d7fca8ec8c512b0c2778b35bf3f3012b5", func := "burgage/burgagelaw12.WalkGoes", spec := "walkGoes", inPlace := ["slices.overlaps[string]"], unfollowed := true, recurses := true, apart := false }
def WalkGoesSaid : Prop := walkGoesRow.holds Try.pinned (OpenSpec.ofChange walkGoesSpec)

/-- ITS FALSE NEIGHBOUR: 'it returns false'. Refute it at one input. -/
def walkGoesWrong : ChangeSpec := { name := "walkGoes", fn := fun _ => fun
  | [d1, d2, d3] => { results := [.lit (.bool false)], args := [d1, d2, d3] }
  | _ => none }
def WalkGoesWrongFalsely : Prop := walkGoesRow.holds Try.pinned (OpenSpec.ofChange walkGoesWrong)

/-- 'burgagelaw12.WalkBegins': WHATEVER THE INPUT: true; the input reads as it did. -/
def walkBeginsSpec : ChangeSpec := { name := "walkBegins", fn := fun _ => fun
  | [d1, d2, d3] => { results := [.lit (.bool true)], args := [d1, d2, d3] }
  | _ => none }
def walkBeginsRow : OpenClaim := { program := "ytegccicplcjcmaa", sum := "70af2f3e5fc65bbf93bc10e2b2007b4d7fca8ec8c512b0c2778b35bf3f3012b5", func := "burgage/burgagelaw12.WalkBegins", spec := "walkBegins", inPlace := ["slices.overlaps[string]", "maps.clone"], unfollowed := true, recurses := true, apart := false }
def WalkBeginsSaid : Prop := walkBeginsRow.holds Try.pinned (OpenSpec.ofChange walkBeginsSpec)

/-- ITS FALSE NEIGHBOUR: 'it returns false'. Refute it at one input. -/
def walkBeginsWrong : ChangeSpec := { name := "walkBegins", fn := fun _ => fun
  | [d1, d2, d3] => { results := [.lit (.bool false)], args := [d1, d2, d3] }
  | _ => none }
def WalkBeginsWrongFalsely : Prop := walkBeginsRow.holds Try.pinned (OpenSpec.ofChange walkBeginsWrong)

/-- 'burgagelaw12.WalkAdjacent': WHATEVER THE INPUT: true; the input reads as it did. -/
def walkAdjacentSpec : ChangeSpec := { name := "walkAdjacent", fn := fun _ => fun
  | [d1, d2, d3] => { results := [.lit (.bool true)], args := [d1, d2, d3] }
  | _ => none }
def walkAdjacentRow : OpenClaim := { program := "ytegccicplcjcmaa", sum := "70af2f3e5fc65bbf93bc10e2b2007b4d7fca8ec8c512b0c2778b35bf3f3012b5", func := "burgage/burgagelaw12.WalkAdjacent", spec := "walkAdjacent", inPlace := ["slices.overlaps[string]", "maps.clone"], unfollowed := true, recurses := true, apart := false }
def WalkAdjacentSaid : Prop := walkAdjacentRow.holds Try.pinned (OpenSpec.ofChange walkAdjacentSpec)

/-- ITS FALSE NEIGHBOUR: 'it returns false'. Refute it at one input. -/
def walkAdjacentWrong : ChangeSpec := { name := "walkAdjacent", fn := fun _ => fun
  | [d1, d2, d3] => { results := [.lit (.bool false)], args := [d1, d2, d3] }
  | _ => none }
def WalkAdjacentWrongFalsely : Prop := walkAdjacentRow.holds Try.pinned (OpenSpec.ofChange walkAdjacentWrong)

/-- 'burgagelaw12.WalkPages': WHATEVER THE INPUT: true; the input reads as it did. -/
def walkPagesSpec : ChangeSpec := { name := "walkPages", fn := fun _ => fun
  | [d1, d2] => { results := [.lit (.bool true)], args := [d1, d2] }
  | _ => none }
def walkPagesRow : OpenClaim := { program := "ytegccicplcjcmaa", sum := "70af2f3e5fc65bbf93bc10e2b2007b4d7fca8ec8c512b0c2778b35bf3f3012b5", func := "burgage/burgagelaw12.WalkPages", spec := "walkPages", inPlace := ["slices.overlaps[string]", "maps.clone"], unfollowed := true, recurses := true, apart := false }
def WalkPagesSaid : Prop := walkPagesRow.holds Try.pinned (OpenSpec.ofChange walkPagesSpec)

/-- ITS FALSE NEIGHBOUR: 'it returns false'. Refute it at one input. -/
def walkPagesWrong : ChangeSpec := { name := "walkPages", fn := fun _ => fun
  | [d1, d2] => { results := [.lit (.bool false)], args := [d1, d2] }
  | _ => none }
def WalkPagesWrongFalsely : Prop := walkPagesRow.holds Try.pinned (OpenSpec.ofChange walkPagesWrong)

/- THE SECOND FORM. 'bulk': how many values and letters a reading holds, each counted each time it is reached (what is shared counts as often as it is met; a slice's spare places count too). A statement '..UptoSaid' is the law's where the arguments, and the package variables that the reading takes, are together of bulk at most 1048576: NARROWER than '..Said'. Prove '..Said' where nothing that the law and all that it calls make is longer than what came in: it says more and counts as full. Else prove '..UptoSaid'. A law counts once. -/
mutual
def uptoBulk {H : Type} : DataW H → Nat
  | .lit (.string bytes) => bytes.length + 1
  | .lit _ => 1
  | .nil => 1
  | .ptr d => uptoBulk d + 1
  | .slice elems spare => uptoBulkAll elems + uptoBulkAll spare + 1
  | .agg parts => uptoBulkAll parts + 1
  | .iface _ d => uptoBulk d + 1
  | .map entries => uptoBulkEntries entries + 1
  | .held _ => 1
def uptoBulkAll {H : Type} : List (DataW H) → Nat
  | [] => 0
  | d :: r => uptoBulk d + uptoBulkAll r
def uptoBulkEntries {H : Type} : List (Lit × DataW H) → Nat
  | [] => 0
  | x :: r => uptoBulkEntry x + uptoBulkEntries r
def uptoBulkEntry {H : Type} : Lit × DataW H → Nat
  | (.string bytes, d) => bytes.length + uptoBulk d + 1
  | (_, d) => uptoBulk d + 1
 end
def uptoSmall : (H : Type) → List (DataW H) → Bool := fun _ ds => decide (uptoBulkAll ds ≤ 1048576)
def OpenSpec.upto (s : _root_.Go.ChangeSpec) : _root_.Go.OpenSpec := { _root_.Go.OpenSpec.ofChange s with cond := some uptoSmall }

/-- 'burgagelaw12.WalkSmall', WHERE WHAT IT READS IS OF BULK AT MOST 1048576: true; the input reads as it did. -/
def walkSmallUptoRow : OpenClaim := { program := "ytegccicplcjcmaa", sum := "70af2f3e5fc65bbf93bc10e2b2007b4d7fca8ec8c512b0c2778b35bf3f3012b5", func := "burgage/burgagelaw12.WalkSmall", spec := "walkSmall", inPlace := ["slices.overlaps[string]"], unfollowed := true, recurses := true, apart := false, narrowed := true }
def WalkSmallUptoSaid : Prop := walkSmallUptoRow.holds Try.pinned (OpenSpec.upto walkSmallSpec)

/-- 'burgagelaw12.WalkGoes', WHERE WHAT IT READS IS OF BULK AT MOST 1048576: true; the input reads as it did. -/
def walkGoesUptoRow : OpenClaim := { program := "ytegccicplcjcmaa", sum := "70af2f3e5fc65bbf93bc10e2b2007b4d7fca8ec8c512b0c2778b35bf3f3012b5", func := "burgage/burgagelaw12.WalkGoes", spec := "walkGoes", inPlace := ["slices.overlaps[string]"], unfollowed := true, recurses := true, apart := false, narrowed := true }
def WalkGoesUptoSaid : Prop := walkGoesUptoRow.holds Try.pinned (OpenSpec.upto walkGoesSpec)

/-- 'burgagelaw12.WalkBegins', WHERE WHAT IT READS IS OF BULK AT MOST 1048576: true; the input reads as it did. -/
def walkBeginsUptoRow : OpenClaim := { program := "ytegccicplcjcmaa", sum := "70af2f3e5fc65bbf93bc10e2b2007b4d7fca8ec8c512b0c2778b35bf3f3012b5", func := "burgage/burgagelaw12.WalkBegins", spec := "walkBegins", inPlace := ["slices.overlaps[string]", "maps.clone"], unfollowed := true, recurses := true, apart := false, narrowed := true }
def WalkBeginsUptoSaid : Prop := walkBeginsUptoRow.holds Try.pinned (OpenSpec.upto walkBeginsSpec)

/-- 'burgagelaw12.WalkAdjacent', WHERE WHAT IT READS IS OF BULK AT MOST 1048576: true; the input reads as it did. -/
def walkAdjacentUptoRow : OpenClaim := { program := "ytegccicplcjcmaa", sum := "70af2f3e5fc65bbf93bc10e2b2007b4d7fca8ec8c512b0c2778b35bf3f3012b5", func := "burgage/burgagelaw12.WalkAdjacent", spec := "walkAdjacent", inPlace := ["slices.overlaps[string]", "maps.clone"], unfollowed := true, recurses := true, apart := false, narrowed := true }
def WalkAdjacentUptoSaid : Prop := walkAdjacentUptoRow.holds Try.pinned (OpenSpec.upto walkAdjacentSpec)

/-- 'burgagelaw12.WalkPages', WHERE WHAT IT READS IS OF BULK AT MOST 1048576: true; the input reads as it did. -/
def walkPagesUptoRow : OpenClaim := { program := "ytegccicplcjcmaa", sum := "70af2f3e5fc65bbf93bc10e2b2007b4d7fca8ec8c512b0c2778b35bf3f3012b5", func := "burgage/burgagelaw12.WalkPages", spec := "walkPages", inPlace := ["slices.overlaps[string]", "maps.clone"], unfollowed := true, recurses := true, apart := false, narrowed := true }
def WalkPagesUptoSaid : Prop := walkPagesUptoRow.holds Try.pinned (OpenSpec.upto walkPagesSpec)

end Rows
end Go.Proofs.Ytegccicplcjcmaa
