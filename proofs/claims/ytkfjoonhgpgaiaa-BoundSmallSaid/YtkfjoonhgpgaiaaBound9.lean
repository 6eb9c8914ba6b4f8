/- Walks: the reference Reaches, Least, Max; bound.Max; tells. -/
import Derived.Test.YtkfjoonhgpgaiaaBound8
import Derived.Test.YtkfjoonhgpgaiaaBound4
import Derived.Test.YtkfjoonhgpgaiaaKit1
namespace Go.Proofs.Ytkfjoonhgpgaiaa
open Go Go.RowKit Go.Shelf Go.Proofs
attribute [local go_sem] Oper.semAt_some

theorem size_beyond {p : ByteArray} {t : List UInt8} (h : beyondL (by_ p) = some t) : (bs t).size ≤ p.size := by
  have := (beyondL_above h).2
  rw [size_by] at this
  rw [size_bs]
  exact this

set_option maxRecDepth 100000 in
set_option maxHeartbeats 4000000 in
theorem refreaches_any (p b : ByteArray) (w : World) (hp : p.size ≤ 281474976710656) (hb : b.size ≤ 281474976710656) :
    Calls Try.prog 46 #[.string p, .string b] w fun e w' => e = .returned (.bool (reachesB (by_ p) (by_ b))) ∧ Below w.heap.size w w' := by
  have hR := reaches_ref p b
  cases ht : beyondL (by_ p) with
  | none =>
    have HR := Lib.hid (hR.1 ht)
    have hV : beyondV p = .tuple #[.string ⟨#[]⟩, .bool false] := by unfold beyondV; rw [ht]; rfl
    clear hR ht
    go_enter Try.func46, Try.ntmps46
    go_wp2_with (go_at_call 43; refine (refbeyond_any _ _ hp).mono ?_; rw [hV]; rintro e w' ⟨rfl, hn⟩)
    go_ret
    exact ⟨ret_bool (by rw [HR.out]), hn⟩
  | some t =>
    have HR := Lib.hid (hR.2 t ht)
    have hV : beyondV p = .tuple #[.string (bs t), .bool true] := by unfold beyondV; rw [ht]; rfl
    clear hR ht
    go_enter Try.func46, Try.ntmps46
    go_wp2_with (first
      | (go_at_call 43; refine (refbeyond_any _ _ hp).mono ?_; rw [hV]; rintro e w' ⟨rfl, hn⟩)
      | (go_at_call 49; refine (refless_any _ _ _ hb).mono ?_; rintro e w2 ⟨rfl, hn2⟩))
    go_ret
    exact ⟨ret_bool (by rw [HR.out]), below_chain hn hn2⟩

set_option maxRecDepth 100000 in
set_option maxHeartbeats 4000000 in
theorem refleast_any (p b : ByteArray) (w : World) (hp : p.size ≤ 281474976710656) (hb : b.size ≤ 281474976710656) :
    Calls Try.prog 47 #[.string p, .string b] w fun e w' => e = .returned (.string (leastS p b)) ∧ Below w.heap.size w w' := by
  cases hr : reachesB (by_ p) (by_ b) with
  | false =>
    have HL : Hid (leastS p b = ⟨#[]⟩) := Lib.hid (by unfold leastS; rw [hr]; rfl)
    go_enter Try.func47, Try.ntmps47
    go_wp2_with (go_at_call 46; refine (refreaches_any _ _ _ hp hb).mono ?_; rintro e w' ⟨rfl, hn⟩)
    go_ret
    exact ⟨ret_str HL.out.symm, hn⟩
  | true =>
    cases hl : lessB p b with
    | true =>
      have HL : Hid (leastS p b = b) := Lib.hid (by unfold leastS Lib.maxS; rw [hr, if_pos rfl, if_pos (show p.data.toList < b.data.toList from of_decide_eq_true hl)])
      go_enter Try.func47, Try.ntmps47
      go_wp2_with (first
        | (go_at_call 46; refine (refreaches_any _ _ _ hp hb).mono ?_; rintro e w' ⟨rfl, hn⟩)
        | (go_at_call 49; refine (refless_any _ _ _ hp).mono ?_; rintro e w2 ⟨rfl, hn2⟩))
      go_ret
      exact ⟨ret_str HL.out.symm, below_chain hn hn2⟩
    | false =>
      have HL : Hid (leastS p b = p) := Lib.hid (by unfold leastS Lib.maxS; rw [hr, if_pos rfl, if_neg (show ¬ p.data.toList < b.data.toList from of_decide_eq_false hl)])
      go_enter Try.func47, Try.ntmps47
      go_wp2_with (first
        | (go_at_call 46; refine (refreaches_any _ _ _ hp hb).mono ?_; rintro e w' ⟨rfl, hn⟩)
        | (go_at_call 49; refine (refless_any _ _ _ hp).mono ?_; rintro e w2 ⟨rfl, hn2⟩))
      go_ret
      exact ⟨ret_str HL.out.symm, below_chain hn hn2⟩

set_option maxRecDepth 100000 in
set_option maxHeartbeats 4000000 in
theorem tells05 (p s : ByteArray) (n : Int) (w : World) (hp : p.size ≤ 140737488351232) (hs : s.size ≤ 140737488351232) :
    Calls Try.prog 22 #[.string p, .string s, .int .i64 n] w fun e w' => e = .returned (.bool true) ∧ Below w.heap.size w w' := by
  have hB := Below.refl w.heap.size w
  have hV : beyondV p = .tuple #[.string (bs ((beyondL (by_ p)).getD [])), .bool (beyondL (by_ p)).isSome] := rfl
  go_enter Try.func22, Try.ntmps22
  go_wp2_with (first
    | (go_at_call 17; refine (beyond_any _ _ (by omega)).mono ?_; rw [hV]; rintro e w' ⟨rfl, hn⟩; replace hB := below_chain hB hn; clear hn)
    | (go_at_call 43; refine (refbeyond_any _ _ (by omega)).mono ?_; rw [hV]; rintro e w' ⟨rfl, hn⟩; replace hB := below_chain hB hn; clear hn)
    | (go_at_call 16; refine (after_any _ _ (by omega)).mono ?_; rintro e w' ⟨rfl, rfl⟩)
    | (go_at_call 44; refine (refafter_any _ _ (by omega)).mono ?_; rintro e w' ⟨rfl, hn⟩; replace hB := below_chain hB hn; clear hn)
    | (go_at_call 20; refine (clip_any _ _ _ (by omega)).mono ?_; rintro e w' ⟨rfl, hn⟩; replace hB := below_chain hB hn; clear hn)
    | (go_at_call 45; refine (refclip_any _ _ _ (by omega)).mono ?_; rintro e w' ⟨rfl, hn⟩; replace hB := below_chain hB hn; clear hn)
    | (go_at_call 19; refine (reaches_any _ _ _ (by omega)).mono ?_; rintro e w' ⟨rfl, hn⟩; replace hB := below_chain hB hn; clear hn)
    | (go_at_call 46; refine (refreaches_any _ _ _ (by omega) (by omega)).mono ?_; rintro e w' ⟨rfl, hn⟩; replace hB := below_chain hB hn; clear hn)
    | (go_at_call 18; refine (least_any _ _ _ (by omega)).mono ?_; rintro e w' ⟨rfl, hn⟩; replace hB := below_chain hB hn; clear hn)
    | (go_at_call 47; refine (refleast_any _ _ _ (by omega) (by omega)).mono ?_; rintro e w' ⟨rfl, hn⟩; replace hB := below_chain hB hn; clear hn))
  go_ret
  exact ⟨rfl, hB⟩
end Go.Proofs.Ytkfjoonhgpgaiaa
