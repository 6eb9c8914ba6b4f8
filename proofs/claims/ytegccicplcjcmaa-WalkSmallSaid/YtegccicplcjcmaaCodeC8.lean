/- Walks of code.Encode, code.Is and the reference's Decode. -/
import Derived.Test.YtegccicplcjcmaaCode7
namespace Go.Proofs.Ytegccicplcjcmaa
open Go Go.RowKit Go.Shelf Go.Proofs Go.Sort
attribute [local go_sem] Oper.semAt_some

def decB (s : ByteArray) : Bool := (decL (by_ s)).isSome

theorem decV_parts (s : ByteArray) : ∃ t e, decV s = .tuple #[.string t, .int .i64 e] ∧ (e == 0) = decB s ∧ (∀ xs, decL (by_ s) = some xs → t = bs xs ∧ e = 0) ∧ (decL (by_ s) = none → t = ⟨#[]⟩ ∧ e = 4) := by
  unfold decV decB
  cases decL (by_ s) with
  | none => exact ⟨_, _, rfl, rfl, by simp, by simp⟩
  | some xs => exact ⟨_, _, rfl, rfl, by simp, by simp⟩

theorem is_any (s : ByteArray) (w : World) (hs : s.size ≤ 281474976710656) :
    Calls Try.prog 35 #[.string s] w fun e w' => e = .returned (.bool (decB s)) ∧ Below w.heap.size w w' := by
  obtain ⟨t, e, hV, he, -, -⟩ := decV_parts s
  have HE := Lib.hid he
  clear he
  go_enter Try.func35, Try.ntmps35
  go_wp2_with (go_at_call 53; refine (decode_any _ _ hs).mono ?_; rw [hV]; rintro e w' ⟨rfl, hn⟩)
  go_ret
  exact ⟨ret_bool HE.out, hn⟩
end Go.Proofs.Ytegccicplcjcmaa
