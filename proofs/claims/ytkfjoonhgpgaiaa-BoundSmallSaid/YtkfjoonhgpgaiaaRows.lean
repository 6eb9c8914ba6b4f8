/-
  No cell of these rows narrows 'for every input' (looked for: loops, veiled, ifaces, maps, wideKeys, modest, calm, conditions, laid).
  DERIVED. THE GIVEN ROWS OF THIS SEAT. 12 by the template 'for every input the law returns true; each argument reads behind the call as it read before'; 0 by the template 'total and deterministic' (their statements: YtkfjoonhgpgaiaaTotals.lean).
  GIVEN WITH THE SEED: the statements are not yours to turn. If you find one false, say at which input.
  Laid BY PROGRAM, IN A SANDBOX (cutbox-rows.mjs): the forced cells as the released guide's own fill.sh prints them over the translation 00282d78e95136f7… (all of the seat's roots in one cut). By AI agents, Wed Nov 11 2026. No macro, syntax, notation, axiom, sorry.
-/
import Derived.Test.YtkfjoonhgpgaiaaChecked
import GoSem.Claim
import GoSem.ClaimJoined
import GoSem.ClaimMapViews
import Derived.JoinedTies
import Derived.KernelRfl
namespace Go.Proofs.Ytkfjoonhgpgaiaa
/- THE CELL 'sum', in the pinned program and in every row, IS THE sha256 OF THE DUMP (.gsa) THAT YtkfjoonhgpgaiaaProg.lean LOADS. Nothing in Lean hashes anything: it is a label: what it is worth is what the hold of that sum in a sandbox is worth. -/
noncomputable def Try.pinned : Pinned := { name := "ytkfjoonhgpgaiaa", sum := "00282d78e95136f77b726d239f06b90189d666107121af3b63211d83fc695140", checked := Try.checked }
namespace Rows
def none {H : Type} : Left H := { results := [], args := [] }

/-- 'burgagelaw05.BoundNext': WHATEVER THE INPUT: true; the input reads as it did. -/
def boundNextSpec : ChangeSpec := { name := "boundNext", fn := fun _ => fun
  | [d1, d2] => { results := [.lit (.bool true)], args := [d1, d2] }
  | _ => none }
def boundNextRow : OpenClaim := { program := "ytkfjoonhgpgaiaa", sum := "00282d78e95136f77b726d239f06b90189d666107121af3b63211d83fc695140", func := "burgage/burgagelaw05.BoundNext", spec := "boundNext", unfollowed := true, recurses := true, apart := false }
def BoundNextSaid : Prop := boundNextRow.holds Try.pinned (OpenSpec.ofChange boundNextSpec)

/-- ITS FALSE NEIGHBOUR: 'it returns false'. Refute it at one input. -/
def boundNextWrong : ChangeSpec := { name := "boundNext", fn := fun _ => fun
  | [d1, d2] => { results := [.lit (.bool false)], args := [d1, d2] }
  | _ => none }
def BoundNextWrongFalsely : Prop := boundNextRow.holds Try.pinned (OpenSpec.ofChange boundNextWrong)

/-- 'burgagelaw05.BoundReaches': WHATEVER THE INPUT: true; the input reads as it did. -/
def boundReachesSpec : ChangeSpec := { name := "boundReaches", fn := fun _ => fun
  | [d1, d2, d3] => { results := [.lit (.bool true)], args := [d1, d2, d3] }
  | _ => none }
def boundReachesRow : OpenClaim := { program := "ytkfjoonhgpgaiaa", sum := "00282d78e95136f77b726d239f06b90189d666107121af3b63211d83fc695140", func := "burgage/burgagelaw05.BoundReaches", spec := "boundReaches", unfollowed := true, recurses := true, apart := false }
def BoundReachesSaid : Prop := boundReachesRow.holds Try.pinned (OpenSpec.ofChange boundReachesSpec)

/-- ITS FALSE NEIGHBOUR: 'it returns false'. Refute it at one input. -/
def boundReachesWrong : ChangeSpec := { name := "boundReaches", fn := fun _ => fun
  | [d1, d2, d3] => { results := [.lit (.bool false)], args := [d1, d2, d3] }
  | _ => none }
def BoundReachesWrongFalsely : Prop := boundReachesRow.holds Try.pinned (OpenSpec.ofChange boundReachesWrong)

/-- 'burgagelaw05.BoundTells': WHATEVER THE INPUT: true; the input reads as it did. -/
def boundTellsSpec : ChangeSpec := { name := "boundTells", fn := fun _ => fun
  | [d1, d2, d3, d4] => { results := [.lit (.bool true)], args := [d1, d2, d3, d4] }
  | _ => none }
def boundTellsRow : OpenClaim := { program := "ytkfjoonhgpgaiaa", sum := "00282d78e95136f77b726d239f06b90189d666107121af3b63211d83fc695140", func := "burgage/burgagelaw05.BoundTells", spec := "boundTells", unfollowed := true, recurses := true, apart := false }
def BoundTellsSaid : Prop := boundTellsRow.holds Try.pinned (OpenSpec.ofChange boundTellsSpec)

/-- ITS FALSE NEIGHBOUR: 'it returns false'. Refute it at one input. -/
def boundTellsWrong : ChangeSpec := { name := "boundTells", fn := fun _ => fun
  | [d1, d2, d3, d4] => { results := [.lit (.bool false)], args := [d1, d2, d3, d4] }
  | _ => none }
def BoundTellsWrongFalsely : Prop := boundTellsRow.holds Try.pinned (OpenSpec.ofChange boundTellsWrong)

/-- 'burgagelaw05.BoundSmall': WHATEVER THE INPUT: true; the input reads as it did. -/
def boundSmallSpec : ChangeSpec := { name := "boundSmall", fn := fun _ => fun
  | [] => { results := [.lit (.bool true)], args := [] }
  | _ => none }
def boundSmallRow : OpenClaim := { program := "ytkfjoonhgpgaiaa", sum := "00282d78e95136f77b726d239f06b90189d666107121af3b63211d83fc695140", func := "burgage/burgagelaw05.BoundSmall", spec := "boundSmall", unfollowed := true, recurses := true, apart := false }
def BoundSmallSaid : Prop := boundSmallRow.holds Try.pinned (OpenSpec.ofChange boundSmallSpec)

/-- ITS FALSE NEIGHBOUR: 'it returns false'. Refute it at one input. -/
def boundSmallWrong : ChangeSpec := { name := "boundSmall", fn := fun _ => fun
  | [] => { results := [.lit (.bool false)], args := [] }
  | _ => none }
def BoundSmallWrongFalsely : Prop := boundSmallRow.holds Try.pinned (OpenSpec.ofChange boundSmallWrong)

/-- 'burgagelaw04.CodeTells': WHATEVER THE INPUT: true; the input reads as it did. -/
def codeTellsSpec : ChangeSpec := { name := "codeTells", fn := fun _ => fun
  | [d1, d2] => { results := [.lit (.bool true)], args := [d1, d2] }
  | _ => none }
def codeTellsRow : OpenClaim := { program := "ytkfjoonhgpgaiaa", sum := "00282d78e95136f77b726d239f06b90189d666107121af3b63211d83fc695140", func := "burgage/burgagelaw04.CodeTells", spec := "codeTells", unfollowed := true, recurses := true, apart := false }
def CodeTellsSaid : Prop := codeTellsRow.holds Try.pinned (OpenSpec.ofChange codeTellsSpec)

/-- ITS FALSE NEIGHBOUR: 'it returns false'. Refute it at one input. -/
def codeTellsWrong : ChangeSpec := { name := "codeTells", fn := fun _ => fun
  | [d1, d2] => { results := [.lit (.bool false)], args := [d1, d2] }
  | _ => none }
def CodeTellsWrongFalsely : Prop := codeTellsRow.holds Try.pinned (OpenSpec.ofChange codeTellsWrong)

/-- 'burgagelaw04.CodeSmall': WHATEVER THE INPUT: true; the input reads as it did. -/
def codeSmallSpec : ChangeSpec := { name := "codeSmall", fn := fun _ => fun
  | [] => { results := [.lit (.bool true)], args := [] }
  | _ => none }
def codeSmallRow : OpenClaim := { program := "ytkfjoonhgpgaiaa", sum := "00282d78e95136f77b726d239f06b90189d666107121af3b63211d83fc695140", func := "burgage/burgagelaw04.CodeSmall", spec := "codeSmall", unfollowed := true, recurses := true, apart := false }
def CodeSmallSaid : Prop := codeSmallRow.holds Try.pinned (OpenSpec.ofChange codeSmallSpec)

/-- ITS FALSE NEIGHBOUR: 'it returns false'. Refute it at one input. -/
def codeSmallWrong : ChangeSpec := { name := "codeSmall", fn := fun _ => fun
  | [] => { results := [.lit (.bool false)], args := [] }
  | _ => none }
def CodeSmallWrongFalsely : Prop := codeSmallRow.holds Try.pinned (OpenSpec.ofChange codeSmallWrong)

/-- 'burgagelaw04.CodeBack': WHATEVER THE INPUT: true; the input reads as it did. -/
def codeBackSpec : ChangeSpec := { name := "codeBack", fn := fun _ => fun
  | [d] => { results := [.lit (.bool true)], args := [d] }
  | _ => none }
def codeBackRow : OpenClaim := { program := "ytkfjoonhgpgaiaa", sum := "00282d78e95136f77b726d239f06b90189d666107121af3b63211d83fc695140", func := "burgage/burgagelaw04.CodeBack", spec := "codeBack", unfollowed := true, recurses := true, apart := false }
def CodeBackSaid : Prop := codeBackRow.holds Try.pinned (OpenSpec.ofChange codeBackSpec)

/-- ITS FALSE NEIGHBOUR: 'it returns false'. Refute it at one input. -/
def codeBackWrong : ChangeSpec := { name := "codeBack", fn := fun _ => fun
  | [d] => { results := [.lit (.bool false)], args := [d] }
  | _ => none }
def CodeBackWrongFalsely : Prop := codeBackRow.holds Try.pinned (OpenSpec.ofChange codeBackWrong)

/-- 'burgagelaw04.CodeOrder': WHATEVER THE INPUT: true; the input reads as it did. -/
def codeOrderSpec : ChangeSpec := { name := "codeOrder", fn := fun _ => fun
  | [d1, d2, d3] => { results := [.lit (.bool true)], args := [d1, d2, d3] }
  | _ => none }
def codeOrderRow : OpenClaim := { program := "ytkfjoonhgpgaiaa", sum := "00282d78e95136f77b726d239f06b90189d666107121af3b63211d83fc695140", func := "burgage/burgagelaw04.CodeOrder", spec := "codeOrder", unfollowed := true, recurses := true, apart := false }
def CodeOrderSaid : Prop := codeOrderRow.holds Try.pinned (OpenSpec.ofChange codeOrderSpec)

/-- ITS FALSE NEIGHBOUR: 'it returns false'. Refute it at one input. -/
def codeOrderWrong : ChangeSpec := { name := "codeOrder", fn := fun _ => fun
  | [d1, d2, d3] => { results := [.lit (.bool false)], args := [d1, d2, d3] }
  | _ => none }
def CodeOrderWrongFalsely : Prop := codeOrderRow.holds Try.pinned (OpenSpec.ofChange codeOrderWrong)

/-- 'burgagelaw06.RealmTells': WHATEVER THE INPUT: true; the input reads as it did. -/
def realmTellsSpec : ChangeSpec := { name := "realmTells", fn := fun _ => fun
  | [d1, d2, d3] => { results := [.lit (.bool true)], args := [d1, d2, d3] }
  | _ => none }
def realmTellsRow : OpenClaim := { program := "ytkfjoonhgpgaiaa", sum := "00282d78e95136f77b726d239f06b90189d666107121af3b63211d83fc695140", func := "burgage/burgagelaw06.RealmTells", spec := "realmTells", unfollowed := true, recurses := true, apart := false }
def RealmTellsSaid : Prop := realmTellsRow.holds Try.pinned (OpenSpec.ofChange realmTellsSpec)

/-- ITS FALSE NEIGHBOUR: 'it returns false'. Refute it at one input. -/
def realmTellsWrong : ChangeSpec := { name := "realmTells", fn := fun _ => fun
  | [d1, d2, d3] => { results := [.lit (.bool false)], args := [d1, d2, d3] }
  | _ => none }
def RealmTellsWrongFalsely : Prop := realmTellsRow.holds Try.pinned (OpenSpec.ofChange realmTellsWrong)

/-- 'burgagelaw06.RealmEnds': WHATEVER THE INPUT: true; the input reads as it did. -/
def realmEndsSpec : ChangeSpec := { name := "realmEnds", fn := fun _ => fun
  | [] => { results := [.lit (.bool true)], args := [] }
  | _ => none }
def realmEndsRow : OpenClaim := { program := "ytkfjoonhgpgaiaa", sum := "00282d78e95136f77b726d239f06b90189d666107121af3b63211d83fc695140", func := "burgage/burgagelaw06.RealmEnds", spec := "realmEnds", unfollowed := true, recurses := true, apart := false }
def RealmEndsSaid : Prop := realmEndsRow.holds Try.pinned (OpenSpec.ofChange realmEndsSpec)

/-- ITS FALSE NEIGHBOUR: 'it returns false'. Refute it at one input. -/
def realmEndsWrong : ChangeSpec := { name := "realmEnds", fn := fun _ => fun
  | [] => { results := [.lit (.bool false)], args := [] }
  | _ => none }
def RealmEndsWrongFalsely : Prop := realmEndsRow.holds Try.pinned (OpenSpec.ofChange realmEndsWrong)

/-- 'burgagelaw06.RealmApart': WHATEVER THE INPUT: true; the input reads as it did. -/
def realmApartSpec : ChangeSpec := { name := "realmApart", fn := fun _ => fun
  | [d1, d2, d3, d4, d5] => { results := [.lit (.bool true)], args := [d1, d2, d3, d4, d5] }
  | _ => none }
def realmApartRow : OpenClaim := { program := "ytkfjoonhgpgaiaa", sum := "00282d78e95136f77b726d239f06b90189d666107121af3b63211d83fc695140", func := "burgage/burgagelaw06.RealmApart", spec := "realmApart", unfollowed := true, recurses := true, apart := false }
def RealmApartSaid : Prop := realmApartRow.holds Try.pinned (OpenSpec.ofChange realmApartSpec)

/-- ITS FALSE NEIGHBOUR: 'it returns false'. Refute it at one input. -/
def realmApartWrong : ChangeSpec := { name := "realmApart", fn := fun _ => fun
  | [d1, d2, d3, d4, d5] => { results := [.lit (.bool false)], args := [d1, d2, d3, d4, d5] }
  | _ => none }
def RealmApartWrongFalsely : Prop := realmApartRow.holds Try.pinned (OpenSpec.ofChange realmApartWrong)

/-- 'burgagelaw06.RealmBack': WHATEVER THE INPUT: true; the input reads as it did. -/
def realmBackSpec : ChangeSpec := { name := "realmBack", fn := fun _ => fun
  | [d1, d2, d3] => { results := [.lit (.bool true)], args := [d1, d2, d3] }
  | _ => none }
def realmBackRow : OpenClaim := { program := "ytkfjoonhgpgaiaa", sum := "00282d78e95136f77b726d239f06b90189d666107121af3b63211d83fc695140", func := "burgage/burgagelaw06.RealmBack", spec := "realmBack", unfollowed := true, recurses := true, apart := false }
def RealmBackSaid : Prop := realmBackRow.holds Try.pinned (OpenSpec.ofChange realmBackSpec)

/-- ITS FALSE NEIGHBOUR: 'it returns false'. Refute it at one input. -/
def realmBackWrong : ChangeSpec := { name := "realmBack", fn := fun _ => fun
  | [d1, d2, d3] => { results := [.lit (.bool false)], args := [d1, d2, d3] }
  | _ => none }
def RealmBackWrongFalsely : Prop := realmBackRow.holds Try.pinned (OpenSpec.ofChange realmBackWrong)

/- THE SECOND FORM. 'bulk': how many values and letters a reading holds, each counted each time it is reached (what is shared counts as often as it is met; a slice's spare places count too). A statement '..UptoSaid' is the law's where the arguments, and the package variables that the reading takes, are together of bulk at most 1048576: NARROWER than '..Said'. Prove '..Said' where nothing that the law and all that it calls make is longer than what came in: it says more and counts as full. Else prove '..UptoSaid'. A law counts once. -/
mutual
def uptoBulk {H : Type} : DataW H → Nat
  | .lit (.string bytes) => bytes.length + 1
  | .lit _ => 1
  | .nil => 1
  | .ptr d => uptoBulk d + 1
  | .slice elems spare => uptoBulkAll elems + uptoBulkAll spare + 1
  | .agg parts => uptoBulkAll parts + 1
  | .iface _ d => uptoBulk d + 1
  | .map entries => uptoBulkEntries entries + 1
  | .held _ => 1
def uptoBulkAll {H : Type} : List (DataW H) → Nat
  | [] => 0
  | d :: r => uptoBulk d + uptoBulkAll r
def uptoBulkEntries {H : Type} : List (Lit × DataW H) → Nat
  | [] => 0
  | x :: r => uptoBulkEntry x + uptoBulkEntries r
def uptoBulkEntry {H : Type} : Lit × DataW H → Nat
  | (.string bytes, d) => bytes.length + uptoBulk d + 1
  | (_, d) => uptoBulk d + 1
 end
def uptoSmall : (H : Type) → List (DataW H) → Bool := fun _ ds => decide (uptoBulkAll ds ≤ 1048576)
def OpenSpec.upto (s : _root_.Go.ChangeSpec) : _root_.Go.OpenSpec := { _root_.Go.OpenSpec.ofChange s with cond := some uptoSmall }

/-- 'burgagelaw05.BoundNext', WHERE WHAT IT READS IS OF BULK AT MOST 1048576: true; the input reads as it did. -/
def boundNextUptoRow : OpenClaim := { program := "ytkfjoonhgpgaiaa", sum := "00282d78e95136f77b726d239f06b90189d666107121af3b63211d83fc695140", func := "burgage/burgagelaw05.BoundNext", spec := "boundNext", unfollowed := true, recurses := true, apart := false, narrowed := true }
def BoundNextUptoSaid : Prop := boundNextUptoRow.holds Try.pinned (OpenSpec.upto boundNextSpec)

/-- 'burgagelaw05.BoundReaches', WHERE WHAT IT READS IS OF BULK AT MOST 1048576: true; the input reads as it did. -/
def boundReachesUptoRow : OpenClaim := { program := "ytkfjoonhgpgaiaa", sum := "00282d78e95136f77b726d239f06b90189d666107121af3b63211d83fc695140", func := "burgage/burgagelaw05.BoundReaches", spec := "boundReaches", unfollowed := true, recurses := true, apart := false, narrowed := true }
def BoundReachesUptoSaid : Prop := boundReachesUptoRow.holds Try.pinned (OpenSpec.upto boundReachesSpec)

/-- 'burgagelaw05.BoundTells', WHERE WHAT IT READS IS OF BULK AT MOST 1048576: true; the input reads as it did. -/
def boundTellsUptoRow : OpenClaim := { program := "ytkfjoonhgpgaiaa", sum := "00282d78e95136f77b726d239f06b90189d666107121af3b63211d83fc695140", func := "burgage/burgagelaw05.BoundTells", spec := "boundTells", unfollowed := true, recurses := true, apart := false, narrowed := true }
def BoundTellsUptoSaid : Prop := boundTellsUptoRow.holds Try.pinned (OpenSpec.upto boundTellsSpec)

/-- 'burgagelaw05.BoundSmall', WHERE WHAT IT READS IS OF BULK AT MOST 1048576: true; the input reads as it did. -/
def boundSmallUptoRow : OpenClaim := { program := "ytkfjoonhgpgaiaa", sum := "00282d78e95136f77b726d239f06b90189d666107121af3b63211d83fc695140", func := "burgage/burgagelaw05.BoundSmall", spec := "boundSmall", unfollowed := true, recurses := true, apart := false, narrowed := true }
def BoundSmallUptoSaid : Prop := boundSmallUptoRow.holds Try.pinned (OpenSpec.upto boundSmallSpec)

/-- 'burgagelaw04.CodeTells', WHERE WHAT IT READS IS OF BULK AT MOST 1048576: true; the input reads as it did. -/
def codeTellsUptoRow : OpenClaim := { program := "ytkfjoonhgpgaiaa", sum := "00282d78e95136f77b726d239f06b90189d666107121af3b63211d83fc695140", func := "burgage/burgagelaw04.CodeTells", spec := "codeTells", unfollowed := true, recurses := true, apart := false, narrowed := true }
def CodeTellsUptoSaid : Prop := codeTellsUptoRow.holds Try.pinned (OpenSpec.upto codeTellsSpec)

/-- 'burgagelaw04.CodeSmall', WHERE WHAT IT READS IS OF BULK AT MOST 1048576: true; the input reads as it did. -/
def codeSmallUptoRow : OpenClaim := { program := "ytkfjoonhgpgaiaa", sum := "00282d78e95136f77b726d239f06b90189d666107121af3b63211d83fc695140", func := "burgage/burgagelaw04.CodeSmall", spec := "codeSmall", unfollowed := true, recurses := true, apart := false, narrowed := true }
def CodeSmallUptoSaid : Prop := codeSmallUptoRow.holds Try.pinned (OpenSpec.upto codeSmallSpec)

/-- 'burgagelaw04.CodeBack', WHERE WHAT IT READS IS OF BULK AT MOST 1048576: true; the input reads as it did. -/
def codeBackUptoRow : OpenClaim := { program := "ytkfjoonhgpgaiaa", sum := "00282d78e95136f77b726d239f06b90189d666107121af3b63211d83fc695140", func := "burgage/burgagelaw04.CodeBack", spec := "codeBack", unfollowed := true, recurses := true, apart := false, narrowed := true }
def CodeBackUptoSaid : Prop := codeBackUptoRow.holds Try.pinned (OpenSpec.upto codeBackSpec)

/-- 'burgagelaw04.CodeOrder', WHERE WHAT IT READS IS OF BULK AT MOST 1048576: true; the input reads as it did. -/
def codeOrderUptoRow : OpenClaim := { program := "ytkfjoonhgpgaiaa", sum := "00282d78e95136f77b726d239f06b90189d666107121af3b63211d83fc695140", func := "burgage/burgagelaw04.CodeOrder", spec := "codeOrder", unfollowed := true, recurses := true, apart := false, narrowed := true }
def CodeOrderUptoSaid : Prop := codeOrderUptoRow.holds Try.pinned (OpenSpec.upto codeOrderSpec)

/-- 'burgagelaw06.RealmTells', WHERE WHAT IT READS IS OF BULK AT MOST 1048576: true; the input reads as it did. -/
def realmTellsUptoRow : OpenClaim := { program := "ytkfjoonhgpgaiaa", sum := "00282d78e95136f77b726d239f06b90189d666107121af3b63211d83fc695140", func := "burgage/burgagelaw06.RealmTells", spec := "realmTells", unfollowed := true, recurses := true, apart := false, narrowed := true }
def RealmTellsUptoSaid : Prop := realmTellsUptoRow.holds Try.pinned (OpenSpec.upto realmTellsSpec)

/-- 'burgagelaw06.RealmEnds', WHERE WHAT IT READS IS OF BULK AT MOST 1048576: true; the input reads as it did. -/
def realmEndsUptoRow : OpenClaim := { program := "ytkfjoonhgpgaiaa", sum := "00282d78e95136f77b726d239f06b90189d666107121af3b63211d83fc695140", func := "burgage/burgagelaw06.RealmEnds", spec := "realmEnds", unfollowed := true, recurses := true, apart := false, narrowed := true }
def RealmEndsUptoSaid : Prop := realmEndsUptoRow.holds Try.pinned (OpenSpec.upto realmEndsSpec)

/-- 'burgagelaw06.RealmApart', WHERE WHAT IT READS IS OF BULK AT MOST 1048576: true; the input reads as it did. -/
def realmApartUptoRow : OpenClaim := { program := "ytkfjoonhgpgaiaa", sum := "00282d78e95136f77b726d239f06b90189d666107121af3b63211d83fc695140", func := "burgage/burgagelaw06.RealmApart", spec := "realmApart", unfollowed := true, recurses := true, apart := false, narrowed := true }
def RealmApartUptoSaid : Prop := realmApartUptoRow.holds Try.pinned (OpenSpec.upto realmApartSpec)

/-- 'burgagelaw06.RealmBack', WHERE WHAT IT READS IS OF BULK AT MOST 1048576: true; the input reads as it did. -/
def realmBackUptoRow : OpenClaim := { program := "ytkfjoonhgpgaiaa", sum := "00282d78e95136f77b726d239f06b90189d666107121af3b63211d83fc695140", func := "burgage/burgagelaw06.RealmBack", spec := "realmBack", unfollowed := true, recurses := true, apart := false, narrowed := true }
def RealmBackUptoSaid : Prop := realmBackUptoRow.holds Try.pinned (OpenSpec.upto realmBackSpec)

end Rows
end Go.Proofs.Ytkfjoonhgpgaiaa
