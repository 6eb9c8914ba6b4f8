/- Walk of burgagelaw05.awake. -/
import Derived.Test.YtkfjoonhgpgaiaaBound2
import Derived.Test.YtkfjoonhgpgaiaaBound3
namespace Go.Proofs.Ytkfjoonhgpgaiaa
open Go Go.RowKit Go.Shelf Go.Proofs
attribute [local go_sem] Oper.semAt_some

set_option maxRecDepth 100000 in
set_option maxHeartbeats 2000000 in
theorem awake05 (w : World) :
    Calls Try.prog 15 #[] w fun e w' => e = .returned (.bool true) ∧ Below w.heap.size w w' := by
  have v1 : beyondV ⟨#[97, 98]⟩ = .tuple #[.string ⟨#[97, 99]⟩, .bool true] := by kernel_rfl
  have v2 : beyondV ⟨#[97, 255]⟩ = .tuple #[.string ⟨#[98]⟩, .bool true] := by kernel_rfl
  have v3 : beyondV ⟨#[255]⟩ = .tuple #[.string ⟨#[]⟩, .bool false] := by kernel_rfl
  have r1 : reachesB (by_ ⟨#[97, 98]⟩) (by_ ⟨#[97, 97, 57]⟩) = true := by kernel_rfl
  have r2 : reachesB (by_ ⟨#[97, 98]⟩) (by_ ⟨#[97, 98, 122]⟩) = true := by kernel_rfl
  have r3 : reachesB (by_ ⟨#[97, 98]⟩) (by_ ⟨#[97, 99]⟩) = false := by kernel_rfl
  have l1 : leastS ⟨#[97, 98]⟩ ⟨#[97, 97, 57]⟩ = ⟨#[97, 98]⟩ := by decide +kernel
  have l2 : leastS ⟨#[97, 98]⟩ ⟨#[97, 98, 122]⟩ = ⟨#[97, 98, 122]⟩ := by decide +kernel
  have a1 : ((⟨#[97]⟩ : ByteArray) ++ ⟨#[0]⟩).toList = [97, 0] := by decide +kernel
  have hB := Below.refl w.heap.size w
  go_enter Try.func15, Try.ntmps15
  go_wp2_with (first
    | (go_at_call 17; refine (beyond_any _ _ (by decide)).mono ?_; rintro e w' ⟨rfl, hn⟩; replace hB := below_chain hB hn; clear hn)
    | (go_at_call 16; refine (after_any _ _ (by decide)).mono ?_; rintro e w' ⟨rfl, rfl⟩)
    | (go_at_call 19; refine (reaches_any _ _ _ (by decide)).mono ?_; rintro e w' ⟨rfl, hn⟩; replace hB := below_chain hB hn; clear hn)
    | (go_at_call 18; refine (least_any _ _ _ (by decide)).mono ?_; rintro e w' ⟨rfl, hn⟩; replace hB := below_chain hB hn; clear hn))
  go_ret
  exact ⟨rfl, hB⟩
end Go.Proofs.Ytkfjoonhgpgaiaa
