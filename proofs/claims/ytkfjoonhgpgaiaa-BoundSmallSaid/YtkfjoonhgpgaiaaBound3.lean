/- Walks of bound.Reaches and bound.Least. -/
import Derived.Test.YtkfjoonhgpgaiaaBound1
namespace Go.Proofs.Ytkfjoonhgpgaiaa
open Go Go.RowKit Go.Shelf Go.Proofs
attribute [local go_sem] Oper.semAt_some

/-- a is not above b. -/
def leB (a b : List UInt8) : Bool := Op.bytesLess a b || a == b

/-- Whether some text with the prefix p is not below the bound b. -/
def reachesB (p b : List UInt8) : Bool := leB (b.take p.length) p

theorem reaches_any (p b : ByteArray) (w : World) (hb : b.size ≤ 281474976710656) :
    Calls Try.prog 19 #[.string p, .string b] w fun e w' => e = .returned (.bool (reachesB (by_ p) (by_ b))) ∧ Below w.heap.size w w' := by
  have hl := Lib.hid (toList_bs ((by_ b).take p.size))
  have hl2 := Lib.hid (toList_by p)
  have hl3 := Lib.hid (size_by p)
  go_enter Try.func19, Try.ntmps19
  go_wp2_with (go_at_call 20; refine (clip_any _ _ _ (by omega)).mono ?_; rintro e w' ⟨rfl, hB⟩)
  go_ret
  exact ⟨ret_bool (by rw [hl.out, hl2.out]; unfold reachesB leB; rw [hl3.out]), hB⟩

/-- What Least hands back. -/
def leastS (p b : ByteArray) : ByteArray := if reachesB (by_ p) (by_ b) then Lib.maxS p b else ⟨#[]⟩

theorem least_any (p b : ByteArray) (w : World) (hb : b.size ≤ 281474976710656) :
    Calls Try.prog 18 #[.string p, .string b] w fun e w' => e = .returned (.string (leastS p b)) ∧ Below w.heap.size w w' := by
  have hmx := fun (w : World) ts t (x y : ByteArray) => Lib.run_max_strs (P := Try.prog) w ts t x y
  by_cases hr : reachesB (by_ p) (by_ b) = true
  · have H := Lib.hid hr
    go_enter Try.func18, Try.ntmps18
    go_wp2_with (go_at_call 19; refine (reaches_any _ _ _ hb).mono ?_; rintro e w' ⟨rfl, hB⟩)
    go_ret
    exact ⟨ret_str (by rw [leastS, if_pos H.out]), hB⟩
  · have hr' : reachesB (by_ p) (by_ b) = false := by simpa using hr
    have H := Lib.hid hr
    clear hr
    go_enter Try.func18, Try.ntmps18
    go_wp2_with (go_at_call 19; refine (reaches_any _ _ _ hb).mono ?_; rintro e w' ⟨rfl, hB⟩)
    go_ret
    exact ⟨ret_str (by rw [leastS, if_neg H.out]), hB⟩
end Go.Proofs.Ytkfjoonhgpgaiaa
