/-
  No cell of these rows narrows 'for every input' (looked for: loops, veiled, ifaces, maps, wideKeys, modest, calm, conditions, laid).
  DERIVED. THE GIVEN ROWS OF THIS SEAT. 12 by the template 'for every input the law returns true; each argument reads behind the call as it read before'; 0 by the template 'total and deterministic' (their statements: YtgfhaldfjnepmaaTotals.lean).
  GIVEN WITH THE SEED: the statements are not yours to turn. If you find one false, say at which input.
  Laid BY PROGRAM, IN A SANDBOX (cutbox-rows.mjs): the forced cells as the released guide's own fill.sh prints them over the translation 0f16c4f061fa2973… (all of the seat's roots in one cut). By AI agents, Wed Nov 11 2026. No macro, syntax, notation, axiom, sorry.
-/
import Derived.Test.YtgfhaldfjnepmaaChecked
import GoSem.Claim
import GoSem.ClaimJoined
import GoSem.ClaimMapViews
import Derived.JoinedTies
import Derived.KernelRfl
namespace Go.Proofs.Ytgfhaldfjnepmaa
/- THE CELL 'sum', in the pinned program and in every row, IS THE sha256 OF THE DUMP (.gsa) THAT YtgfhaldfjnepmaaProg.lean LOADS. Nothing in Lean hashes anything: it is a label: what it is worth is what the hold of that sum in a sandbox is worth. -/
noncomputable def Try.pinned : Pinned := { name := "ytgfhaldfjnepmaa", sum := "0f16c4f061fa29739f7e7e0adf01d25d2495201e7f690daec490ccd439796541", checked := Try.checked }
namespace Rows
def none {H : Type} : Left H := { results := [], args := [] }

/-- 'burgagelaw10.PathAll': WHATEVER THE INPUT: true; the input reads as it did. -/
def pathAllSpec : ChangeSpec := { name := "pathAll", fn := fun _ => fun
  | [d] => { results := [.lit (.bool true)], args := [d] }
  | _ => none }
def pathAllRow : OpenClaim := { program := "ytgfhaldfjnepmaa", sum := "0f16c4f061fa29739f7e7e0adf01d25d2495201e7f690daec490ccd439796541", func := "burgage/burgagelaw10.PathAll", spec := "pathAll", unfollowed := true, recurses := true, apart := false }
def PathAllSaid : Prop := pathAllRow.holds Try.pinned (OpenSpec.ofChange pathAllSpec)

/-- ITS FALSE NEIGHBOUR: 'it returns false'. Refute it at one input. -/
def pathAllWrong : ChangeSpec := { name := "pathAll", fn := fun _ => fun
  | [d] => { results := [.lit (.bool false)], args := [d] }
  | _ => none }
def PathAllWrongFalsely : Prop := pathAllRow.holds Try.pinned (OpenSpec.ofChange pathAllWrong)

/-- 'burgagelaw10.PathShares': WHATEVER THE INPUT: true; the input reads as it did. -/
def pathSharesSpec : ChangeSpec := { name := "pathShares", fn := fun _ => fun
  | [d1, d2] => { results := [.lit (.bool true)], args := [d1, d2] }
  | _ => none }
def pathSharesRow : OpenClaim := { program := "ytgfhaldfjnepmaa", sum := "0f16c4f061fa29739f7e7e0adf01d25d2495201e7f690daec490ccd439796541", func := "burgage/burgagelaw10.PathShares", spec := "pathShares", unfollowed := true, recurses := true, apart := false }
def PathSharesSaid : Prop := pathSharesRow.holds Try.pinned (OpenSpec.ofChange pathSharesSpec)

/-- ITS FALSE NEIGHBOUR: 'it returns false'. Refute it at one input. -/
def pathSharesWrong : ChangeSpec := { name := "pathShares", fn := fun _ => fun
  | [d1, d2] => { results := [.lit (.bool false)], args := [d1, d2] }
  | _ => none }
def PathSharesWrongFalsely : Prop := pathSharesRow.holds Try.pinned (OpenSpec.ofChange pathSharesWrong)

/-- 'burgagelaw10.PathTells': WHATEVER THE INPUT: true; the input reads as it did. -/
def pathTellsSpec : ChangeSpec := { name := "pathTells", fn := fun _ => fun
  | [d1, d2, d3] => { results := [.lit (.bool true)], args := [d1, d2, d3] }
  | _ => none }
def pathTellsRow : OpenClaim := { program := "ytgfhaldfjnepmaa", sum := "0f16c4f061fa29739f7e7e0adf01d25d2495201e7f690daec490ccd439796541", func := "burgage/burgagelaw10.PathTells", spec := "pathTells", inPlace := ["internal/abi.NoEscape", "internal/bytealg.MakeNoZero"], unfollowed := true, recurses := true, apart := false }
def PathTellsSaid : Prop := pathTellsRow.holds Try.pinned (OpenSpec.ofChange pathTellsSpec)

/-- ITS FALSE NEIGHBOUR: 'it returns false'. Refute it at one input. -/
def pathTellsWrong : ChangeSpec := { name := "pathTells", fn := fun _ => fun
  | [d1, d2, d3] => { results := [.lit (.bool false)], args := [d1, d2, d3] }
  | _ => none }
def PathTellsWrongFalsely : Prop := pathTellsRow.holds Try.pinned (OpenSpec.ofChange pathTellsWrong)

/-- 'burgagelaw10.PathSmall': WHATEVER THE INPUT: true; the input reads as it did. -/
def pathSmallSpec : ChangeSpec := { name := "pathSmall", fn := fun _ => fun
  | [] => { results := [.lit (.bool true)], args := [] }
  | _ => none }
def pathSmallRow : OpenClaim := { program := "ytgfhaldfjnepmaa", sum := "0f16c4f061fa29739f7e7e0adf01d25d2495201e7f690daec490ccd439796541", func := "burgage/burgagelaw10.PathSmall", spec := "pathSmall", inPlace := ["internal/abi.NoEscape", "internal/bytealg.MakeNoZero"], unfollowed := true, recurses := true, apart := false }
def PathSmallSaid : Prop := pathSmallRow.holds Try.pinned (OpenSpec.ofChange pathSmallSpec)

/-- ITS FALSE NEIGHBOUR: 'it returns false'. Refute it at one input. -/
def pathSmallWrong : ChangeSpec := { name := "pathSmall", fn := fun _ => fun
  | [] => { results := [.lit (.bool false)], args := [] }
  | _ => none }
def PathSmallWrongFalsely : Prop := pathSmallRow.holds Try.pinned (OpenSpec.ofChange pathSmallWrong)

/-- 'burgagelaw10.PathSplits': WHATEVER THE INPUT: true; the input reads as it did. -/
def pathSplitsSpec : ChangeSpec := { name := "pathSplits", fn := fun _ => fun
  | [d1, d2] => { results := [.lit (.bool true)], args := [d1, d2] }
  | _ => none }
def pathSplitsRow : OpenClaim := { program := "ytgfhaldfjnepmaa", sum := "0f16c4f061fa29739f7e7e0adf01d25d2495201e7f690daec490ccd439796541", func := "burgage/burgagelaw10.PathSplits", spec := "pathSplits", inPlace := ["internal/abi.NoEscape", "internal/bytealg.MakeNoZero"], unfollowed := true, recurses := true, apart := false }
def PathSplitsSaid : Prop := pathSplitsRow.holds Try.pinned (OpenSpec.ofChange pathSplitsSpec)

/-- ITS FALSE NEIGHBOUR: 'it returns false'. Refute it at one input. -/
def pathSplitsWrong : ChangeSpec := { name := "pathSplits", fn := fun _ => fun
  | [d1, d2] => { results := [.lit (.bool false)], args := [d1, d2] }
  | _ => none }
def PathSplitsWrongFalsely : Prop := pathSplitsRow.holds Try.pinned (OpenSpec.ofChange pathSplitsWrong)

/-- 'burgagelaw10.PathJoins': WHATEVER THE INPUT: true; the input reads as it did. -/
def pathJoinsSpec : ChangeSpec := { name := "pathJoins", fn := fun _ => fun
  | [d1, d2, d3, d4] => { results := [.lit (.bool true)], args := [d1, d2, d3, d4] }
  | _ => none }
def pathJoinsRow : OpenClaim := { program := "ytgfhaldfjnepmaa", sum := "0f16c4f061fa29739f7e7e0adf01d25d2495201e7f690daec490ccd439796541", func := "burgage/burgagelaw10.PathJoins", spec := "pathJoins", inPlace := ["internal/abi.NoEscape", "internal/bytealg.MakeNoZero"], unfollowed := true, recurses := true, apart := false }
def PathJoinsSaid : Prop := pathJoinsRow.holds Try.pinned (OpenSpec.ofChange pathJoinsSpec)

/-- ITS FALSE NEIGHBOUR: 'it returns false'. Refute it at one input. -/
def pathJoinsWrong : ChangeSpec := { name := "pathJoins", fn := fun _ => fun
  | [d1, d2, d3, d4] => { results := [.lit (.bool false)], args := [d1, d2, d3, d4] }
  | _ => none }
def PathJoinsWrongFalsely : Prop := pathJoinsRow.holds Try.pinned (OpenSpec.ofChange pathJoinsWrong)

/-- 'burgagelaw13.BookQuota': WHATEVER THE INPUT: true; the input reads as it did. -/
def bookQuotaSpec : ChangeSpec := { name := "bookQuota", fn := fun _ => fun
  | [d1, d2] => { results := [.lit (.bool true)], args := [d1, d2] }
  | _ => none }
def bookQuotaRow : OpenClaim := { program := "ytgfhaldfjnepmaa", sum := "0f16c4f061fa29739f7e7e0adf01d25d2495201e7f690daec490ccd439796541", func := "burgage/burgagelaw13.BookQuota", spec := "bookQuota", inPlace := ["slices.overlaps[string]", "maps.clone"], unfollowed := true, recurses := true, apart := false }
def BookQuotaSaid : Prop := bookQuotaRow.holds Try.pinned (OpenSpec.ofChange bookQuotaSpec)

/-- ITS FALSE NEIGHBOUR: 'it returns false'. Refute it at one input. -/
def bookQuotaWrong : ChangeSpec := { name := "bookQuota", fn := fun _ => fun
  | [d1, d2] => { results := [.lit (.bool false)], args := [d1, d2] }
  | _ => none }
def BookQuotaWrongFalsely : Prop := bookQuotaRow.holds Try.pinned (OpenSpec.ofChange bookQuotaWrong)

/-- 'burgagelaw13.BookScans': WHATEVER THE INPUT: true; the input reads as it did. -/
def bookScansSpec : ChangeSpec := { name := "bookScans", fn := fun _ => fun
  | [d1, d2, d3, d4, d5] => { results := [.lit (.bool true)], args := [d1, d2, d3, d4, d5] }
  | _ => none }
def bookScansRow : OpenClaim := { program := "ytgfhaldfjnepmaa", sum := "0f16c4f061fa29739f7e7e0adf01d25d2495201e7f690daec490ccd439796541", func := "burgage/burgagelaw13.BookScans", spec := "bookScans", inPlace := ["slices.overlaps[string]", "maps.clone"], unfollowed := true, recurses := true, apart := false }
def BookScansSaid : Prop := bookScansRow.holds Try.pinned (OpenSpec.ofChange bookScansSpec)

/-- ITS FALSE NEIGHBOUR: 'it returns false'. Refute it at one input. -/
def bookScansWrong : ChangeSpec := { name := "bookScans", fn := fun _ => fun
  | [d1, d2, d3, d4, d5] => { results := [.lit (.bool false)], args := [d1, d2, d3, d4, d5] }
  | _ => none }
def BookScansWrongFalsely : Prop := bookScansRow.holds Try.pinned (OpenSpec.ofChange bookScansWrong)

/-- 'burgagelaw13.BookTells': WHATEVER THE INPUT: true; the input reads as it did. -/
def bookTellsSpec : ChangeSpec := { name := "bookTells", fn := fun _ => fun
  | [d1, d2, d3, d4] => { results := [.lit (.bool true)], args := [d1, d2, d3, d4] }
  | _ => none }
def bookTellsRow : OpenClaim := { program := "ytgfhaldfjnepmaa", sum := "0f16c4f061fa29739f7e7e0adf01d25d2495201e7f690daec490ccd439796541", func := "burgage/burgagelaw13.BookTells", spec := "bookTells", inPlace := ["slices.overlaps[string]", "maps.clone"], unfollowed := true, recurses := true, apart := false }
def BookTellsSaid : Prop := bookTellsRow.holds Try.pinned (OpenSpec.ofChange bookTellsSpec)

/-- ITS FALSE NEIGHBOUR: 'it returns false'. Refute it at one input. -/
def bookTellsWrong : ChangeSpec := { name := "bookTells", fn := fun _ => fun
  | [d1, d2, d3, d4] => { results := [.lit (.bool false)], args := [d1, d2, d3, d4] }
  | _ => none }
def BookTellsWrongFalsely : Prop := bookTellsRow.holds Try.pinned (OpenSpec.ofChange bookTellsWrong)

/-- 'burgagelaw13.BookCopies': WHATEVER THE INPUT: true; the input reads as it did. -/
def bookCopiesSpec : ChangeSpec := { name := "bookCopies", fn := fun _ => fun
  | [d1, d2, d3] => { results := [.lit (.bool true)], args := [d1, d2, d3] }
  | _ => none }
def bookCopiesRow : OpenClaim := { program := "ytgfhaldfjnepmaa", sum := "0f16c4f061fa29739f7e7e0adf01d25d2495201e7f690daec490ccd439796541", func := "burgage/burgagelaw13.BookCopies", spec := "bookCopies", inPlace := ["slices.overlaps[string]", "maps.clone"], unfollowed := true, recurses := true, apart := false }
def BookCopiesSaid : Prop := bookCopiesRow.holds Try.pinned (OpenSpec.ofChange bookCopiesSpec)

/-- ITS FALSE NEIGHBOUR: 'it returns false'. Refute it at one input. -/
def bookCopiesWrong : ChangeSpec := { name := "bookCopies", fn := fun _ => fun
  | [d1, d2, d3] => { results := [.lit (.bool false)], args := [d1, d2, d3] }
  | _ => none }
def BookCopiesWrongFalsely : Prop := bookCopiesRow.holds Try.pinned (OpenSpec.ofChange bookCopiesWrong)

/-- 'burgagelaw13.BookSmall': WHATEVER THE INPUT: true; the input reads as it did. -/
def bookSmallSpec : ChangeSpec := { name := "bookSmall", fn := fun _ => fun
  | [] => { results := [.lit (.bool true)], args := [] }
  | _ => none }
def bookSmallRow : OpenClaim := { program := "ytgfhaldfjnepmaa", sum := "0f16c4f061fa29739f7e7e0adf01d25d2495201e7f690daec490ccd439796541", func := "burgage/burgagelaw13.BookSmall", spec := "bookSmall", inPlace := ["slices.overlaps[string]", "maps.clone"], unfollowed := true, recurses := true, apart := false }
def BookSmallSaid : Prop := bookSmallRow.holds Try.pinned (OpenSpec.ofChange bookSmallSpec)

/-- ITS FALSE NEIGHBOUR: 'it returns false'. Refute it at one input. -/
def bookSmallWrong : ChangeSpec := { name := "bookSmall", fn := fun _ => fun
  | [] => { results := [.lit (.bool false)], args := [] }
  | _ => none }
def BookSmallWrongFalsely : Prop := bookSmallRow.holds Try.pinned (OpenSpec.ofChange bookSmallWrong)

/-- 'burgagelaw13.BookKeeps': WHATEVER THE INPUT: true; the input reads as it did. -/
def bookKeepsSpec : ChangeSpec := { name := "bookKeeps", fn := fun _ => fun
  | [d1, d2, d3] => { results := [.lit (.bool true)], args := [d1, d2, d3] }
  | _ => none }
def bookKeepsRow : OpenClaim := { program := "ytgfhaldfjnepmaa", sum := "0f16c4f061fa29739f7e7e0adf01d25d2495201e7f690daec490ccd439796541", func := "burgage/burgagelaw13.BookKeeps", spec := "bookKeeps", inPlace := ["slices.overlaps[string]", "maps.clone"], unfollowed := true, recurses := true, apart := false }
def BookKeepsSaid : Prop := bookKeepsRow.holds Try.pinned (OpenSpec.ofChange bookKeepsSpec)

/-- ITS FALSE NEIGHBOUR: 'it returns false'. Refute it at one input. -/
def bookKeepsWrong : ChangeSpec := { name := "bookKeeps", fn := fun _ => fun
  | [d1, d2, d3] => { results := [.lit (.bool false)], args := [d1, d2, d3] }
  | _ => none }
def BookKeepsWrongFalsely : Prop := bookKeepsRow.holds Try.pinned (OpenSpec.ofChange bookKeepsWrong)

/- THE SECOND FORM. 'bulk': how many values and letters a reading holds, each counted each time it is reached (what is shared counts as often as it is met; a slice's spare places count too). A statement '..UptoSaid' is the law's where the arguments, and the package variables that the reading takes, are together of bulk at most 1048576: NARROWER than '..Said'. Prove '..Said' where nothing that the law and all that it calls make is longer than what came in: it says more and counts as full. Else prove '..UptoSaid'. A law counts once. -/
mutual
def uptoBulk {H : Type} : DataW H → Nat
  | .lit (.string bytes) => bytes.length + 1
  | .lit _ => 1
  | .nil => 1
  | .ptr d => uptoBulk d + 1
  | .slice elems spare => uptoBulkAll elems + uptoBulkAll spare + 1
  | .agg parts => uptoBulkAll parts + 1
  | .iface _ d => uptoBulk d + 1
  | .map entries => uptoBulkEntries entries + 1
  | .held _ => 1
def uptoBulkAll {H : Type} : List (DataW H) → Nat
  | [] => 0
  | d :: r => uptoBulk d + uptoBulkAll r
def uptoBulkEntries {H : Type} : List (Lit × DataW H) → Nat
  | [] => 0
  | x :: r => uptoBulkEntry x + uptoBulkEntries r
def uptoBulkEntry {H : Type} : Lit × DataW H → Nat
  | (.string bytes, d) => bytes.length + uptoBulk d + 1
  | (_, d) => uptoBulk d + 1
 end
def uptoSmall : (H : Type) → List (DataW H) → Bool := fun _ ds => decide (uptoBulkAll ds ≤ 1048576)
def OpenSpec.upto (s : _root_.Go.ChangeSpec) : _root_.Go.OpenSpec := { _root_.Go.OpenSpec.ofChange s with cond := some uptoSmall }

/-- 'burgagelaw10.PathAll', WHERE WHAT IT READS IS OF BULK AT MOST 1048576: true; the input reads as it did. -/
def pathAllUptoRow : OpenClaim := { program := "ytgfhaldfjnepmaa", sum := "0f16c4f061fa29739f7e7e0adf01d25d2495201e7f690daec490ccd439796541", func := "burgage/burgagelaw10.PathAll", spec := "pathAll", unfollowed := true, recurses := true, apart := false, narrowed := true }
def PathAllUptoSaid : Prop := pathAllUptoRow.holds Try.pinned (OpenSpec.upto pathAllSpec)

/-- 'burgagelaw10.PathShares', WHERE WHAT IT READS IS OF BULK AT MOST 1048576: true; the input reads as it did. -/
def pathSharesUptoRow : OpenClaim := { program := "ytgfhaldfjnepmaa", sum := "0f16c4f061fa29739f7e7e0adf01d25d2495201e7f690daec490ccd439796541", func := "burgage/burgagelaw10.PathShares", spec := "pathShares", unfollowed := true, recurses := true, apart := false, narrowed := true }
def PathSharesUptoSaid : Prop := pathSharesUptoRow.holds Try.pinned (OpenSpec.upto pathSharesSpec)

/-- 'burgagelaw10.PathTells', WHERE WHAT IT READS IS OF BULK AT MOST 1048576: true; the input reads as it did. -/
def pathTellsUptoRow : OpenClaim := { program := "ytgfhaldfjnepmaa", sum := "0f16c4f061fa29739f7e7e0adf01d25d2495201e7f690daec490ccd439796541", func := "burgage/burgagelaw10.PathTells", spec := "pathTells", inPlace := ["internal/abi.NoEscape", "internal/bytealg.MakeNoZero"], unfollowed := true, recurses := true, apart := false, narrowed := true }
def PathTellsUptoSaid : Prop := pathTellsUptoRow.holds Try.pinned (OpenSpec.upto pathTellsSpec)

/-- 'burgagelaw10.PathSmall', WHERE WHAT IT READS IS OF BULK AT MOST 1048576: true; the input reads as it did. -/
def pathSmallUptoRow : OpenClaim := { program := "ytgfhaldfjnepmaa", sum := "0f16c4f061fa29739f7e7e0adf01d25d2495201e7f690daec490ccd439796541", func := "burgage/burgagelaw10.PathSmall", spec := "pathSmall", inPlace := ["internal/abi.NoEscape", "internal/bytealg.MakeNoZero"], unfollowed := true, recurses := true, apart := false, narrowed := true }
def PathSmallUptoSaid : Prop := pathSmallUptoRow.holds Try.pinned (OpenSpec.upto pathSmallSpec)

/-- 'burgagelaw10.PathSplits', WHERE WHAT IT READS IS OF BULK AT MOST 1048576: true; the input reads as it did. -/
def pathSplitsUptoRow : OpenClaim := { program := "ytgfhaldfjnepmaa", sum := "0f16c4f061fa29739f7e7e0adf01d25d2495201e7f690daec490ccd439796541", func := "burgage/burgagelaw10.PathSplits", spec := "pathSplits", inPlace := ["internal/abi.NoEscape", "internal/bytealg.MakeNoZero"], unfollowed := true, recurses := true, apart := false, narrowed := true }
def PathSplitsUptoSaid : Prop := pathSplitsUptoRow.holds Try.pinned (OpenSpec.upto pathSplitsSpec)

/-- 'burgagelaw10.PathJoins', WHERE WHAT IT READS IS OF BULK AT MOST 1048576: true; the input reads as it did. -/
def pathJoinsUptoRow : OpenClaim := { program := "ytgfhaldfjnepmaa", sum := "0f16c4f061fa29739f7e7e0adf01d25d2495201e7f690daec490ccd439796541", func := "burgage/burgagelaw10.PathJoins", spec := "pathJoins", inPlace := ["internal/abi.NoEscape", "internal/bytealg.MakeNoZero"], unfollowed := true, recurses := true, apart := false, narrowed := true }
def PathJoinsUptoSaid : Prop := pathJoinsUptoRow.holds Try.pinned (OpenSpec.upto pathJoinsSpec)

/-- 'burgagelaw13.BookQuota', WHERE WHAT IT READS IS OF BULK AT MOST 1048576: true; the input reads as it did. -/
def bookQuotaUptoRow : OpenClaim := { program := "ytgfhaldfjnepmaa", sum := "0f16c4f061fa29739f7e7e0adf01d25d2495201e7f690daec490ccd439796541", func := "burgage/burgagelaw13.BookQuota", spec := "bookQuota", inPlace := ["slices.overlaps[string]", "maps.clone"], unfollowed := true, recurses := true, apart := false, narrowed := true }
def BookQuotaUptoSaid : Prop := bookQuotaUptoRow.holds Try.pinned (OpenSpec.upto bookQuotaSpec)

/-- 'burgagelaw13.BookScans', WHERE WHAT IT READS IS OF BULK AT MOST 1048576: true; the input reads as it did. -/
def bookScansUptoRow : OpenClaim := { program := "ytgfhaldfjnepmaa", sum := "0f16c4f061fa29739f7e7e0adf01d25d2495201e7f690daec490ccd439796541", func := "burgage/burgagelaw13.BookScans", spec := "bookScans", inPlace := ["slices.overlaps[string]", "maps.clone"], unfollowed := true, recurses := true, apart := false, narrowed := true }
def BookScansUptoSaid : Prop := bookScansUptoRow.holds Try.pinned (OpenSpec.upto bookScansSpec)

/-- 'burgagelaw13.BookTells', WHERE WHAT IT READS IS OF BULK AT MOST 1048576: true; the input reads as it did. -/
def bookTellsUptoRow : OpenClaim := { program := "ytgfhaldfjnepmaa", sum := "0f16c4f061fa29739f7e7e0adf01d25d2495201e7f690daec490ccd439796541", func := "burgage/burgagelaw13.BookTells", spec := "bookTells", inPlace := ["slices.overlaps[string]", "maps.clone"], unfollowed := true, recurses := true, apart := false, narrowed := true }
def BookTellsUptoSaid : Prop := bookTellsUptoRow.holds Try.pinned (OpenSpec.upto bookTellsSpec)

/-- 'burgagelaw13.BookCopies', WHERE WHAT IT READS IS OF BULK AT MOST 1048576: true; the input reads as it did. -/
def bookCopiesUptoRow : OpenClaim := { program := "ytgfhaldfjnepmaa", sum := "0f16c4f061fa29739f7e7e0adf01d25d2495201e7f690daec490ccd439796541", func := "burgage/burgagelaw13.BookCopies", spec := "bookCopies", inPlace := ["slices.overlaps[string]", "maps.clone"], unfollowed := true, recurses := true, apart := false, narrowed := true }
def BookCopiesUptoSaid : Prop := bookCopiesUptoRow.holds Try.pinned (OpenSpec.upto bookCopiesSpec)

/-- 'burgagelaw13.BookSmall', WHERE WHAT IT READS IS OF BULK AT MOST 1048576: true; the input reads as it did. -/
def bookSmallUptoRow : OpenClaim := { program := "ytgfhaldfjnepmaa", sum := "0f16c4f061fa29739f7e7e0adf01d25d2495201e7f690daec490ccd439796541", func := "burgage/burgagelaw13.BookSmall", spec := "bookSmall", inPlace := ["slices.overlaps[string]", "maps.clone"], unfollowed := true, recurses := true, apart := false, narrowed := true }
def BookSmallUptoSaid : Prop := bookSmallUptoRow.holds Try.pinned (OpenSpec.upto bookSmallSpec)

/-- 'burgagelaw13.BookKeeps', WHERE WHAT IT READS IS OF BULK AT MOST 1048576: true; the input reads as it did. -/
def bookKeepsUptoRow : OpenClaim := { program := "ytgfhaldfjnepmaa", sum := "0f16c4f061fa29739f7e7e0adf01d25d2495201e7f690daec490ccd439796541", func := "burgage/burgagelaw13.BookKeeps", spec := "bookKeeps", inPlace := ["slices.overlaps[string]", "maps.clone"], unfollowed := true, recurses := true, apart := false, narrowed := true }
def BookKeepsUptoSaid : Prop := bookKeepsUptoRow.holds Try.pinned (OpenSpec.upto bookKeepsSpec)

end Rows
end Go.Proofs.Ytgfhaldfjnepmaa
