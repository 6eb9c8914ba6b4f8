/- Walks of the statements of layer 4: awake, tells, CodeTells. -/
import Derived.Test.YtkfjoonhgpgaiaaCode9
import Derived.Test.YtkfjoonhgpgaiaaLess04
namespace Go.Proofs.Ytkfjoonhgpgaiaa
open Go Go.RowKit Go.Shelf Go.Proofs Go.Sort
attribute [local go_sem] Oper.semAt_some

theorem encV_parts (s : ByteArray) : ∃ t e, encV s = .tuple #[.string t, .int .i64 e] := by
  unfold encV
  split <;> exact ⟨_, _, rfl⟩

set_option maxRecDepth 100000 in
set_option maxHeartbeats 2000000 in
theorem awake04 (w : World) :
    Calls Try.prog 26 #[] w fun e w' => e = .returned (.bool true) ∧ Below w.heap.size w w' := by
  have v1 : encV ⟨#[97, 0, 98]⟩ = .tuple #[.string ⟨#[97, 0, 1, 98, 0, 0]⟩, .int .i64 0] := by kernel_rfl
  have v2 : encV ⟨#[]⟩ = .tuple #[.string ⟨#[0, 0]⟩, .int .i64 0] := by kernel_rfl
  have v3 : decV ⟨#[97, 0, 1, 98, 0, 0]⟩ = .tuple #[.string ⟨#[97, 0, 98]⟩, .int .i64 0] := by kernel_rfl
  have d1 : decB ⟨#[97]⟩ = false := by kernel_rfl
  have d2 : decB ⟨#[97, 0]⟩ = false := by kernel_rfl
  have d3 : decB ⟨#[97, 0, 2]⟩ = false := by kernel_rfl
  have d4 : decB ⟨#[0, 0, 0]⟩ = false := by kernel_rfl
  have l1 : lessBC ⟨#[97]⟩ ⟨#[97, 98]⟩ = true := by decide +kernel
  have hB := Below.refl w.heap.size w
  go_enter Try.func26, Try.ntmps26
  go_wp2_with (first
    | (go_at_call 30; refine (encode_any _ _ (by decide)).mono ?_; (first | rw [v1] | rw [v2]); rintro e w' ⟨rfl, hn⟩; replace hB := below_chain hB hn; clear hn)
    | (go_at_call 31; refine (decode_any _ _ (by decide)).mono ?_; rw [v3]; rintro e w' ⟨rfl, hn⟩; replace hB := below_chain hB hn; clear hn)
    | (go_at_call 32; refine (is_any _ _ (by decide)).mono ?_; rintro e w' ⟨rfl, hn⟩; replace hB := below_chain hB hn; clear hn)
    | (go_at_call 28; refine (less04_any _ _ _).mono ?_; rintro e w' ⟨rfl, rfl⟩))
  go_ret
  exact ⟨rfl, hB⟩

set_option maxRecDepth 100000 in
set_option maxHeartbeats 2000000 in
theorem tells04 (s : ByteArray) (w : World) (hs : s.size ≤ 281474976710656) :
    Calls Try.prog 27 #[.string s] w fun e w' => e = .returned (.bool true) ∧ Below w.heap.size w w' := by
  obtain ⟨t, e, hV⟩ := encV_parts s
  obtain ⟨u, f, hD, hE, -, -⟩ := decV_parts s
  have hB := Below.refl w.heap.size w
  go_enter Try.func27, Try.ntmps27
  go_wp2_with (first
    | (go_at_call 30; refine (encode_any _ _ hs).mono ?_; rw [hV]; rintro e w' ⟨rfl, hn⟩; replace hB := below_chain hB hn; clear hn)
    | (go_at_call 50; refine (refenc_any _ _).mono ?_; rw [hV]; rintro e w' ⟨rfl, rfl⟩)
    | (go_at_call 31; refine (decode_any _ _ hs).mono ?_; rw [hD]; rintro e w' ⟨rfl, hn⟩; replace hB := below_chain hB hn; clear hn)
    | (go_at_call 51; refine (refdecode_any _ _ hs).mono ?_; rw [hD]; rintro e w' ⟨rfl, rfl⟩)
    | (go_at_call 32; refine (is_any _ _ hs).mono ?_; rintro e w' ⟨rfl, hn⟩; replace hB := below_chain hB hn; clear hn))
  go_ret
  exact ⟨rfl, hB⟩

set_option maxRecDepth 100000 in
set_option maxHeartbeats 2000000 in
theorem law_CodeTells (s : ByteArray) (hs : s.size ≤ 140737488351232) (t : ByteArray) (ht : t.size ≤ 140737488351232) (w : World) :
    Calls Try.prog 7 #[.string s, .string t] w fun e w' => e = .returned (.bool true) ∧ Below w.heap.size w w' := by
  have hB := Below.refl w.heap.size w
  have hcase : (1000 : Int) < (s.size : Int) ∨ (¬ (1000 : Int) < (s.size : Int) ∧ (1000 : Int) < (t.size : Int)) ∨ (¬ (1000 : Int) < (s.size : Int) ∧ ¬ (1000 : Int) < (t.size : Int)) := by omega
  rcases hcase with h1 | ⟨h1, h2⟩ | ⟨h1, h2⟩
  all_goals
    go_enter Try.func7, Try.ntmps7
    go_wp2_with (first
      | (go_at_call 26; refine (awake04 _).mono ?_; rintro e w' ⟨rfl, hn⟩; replace hB := below_chain hB hn; clear hn)
      | (go_at_call 27; refine (tells04 _ _ (by omega)).mono ?_; rintro e w' ⟨rfl, hn⟩; replace hB := below_chain hB hn; clear hn)
      | (go_at_call 28; refine (less04_any _ _ _).mono ?_; rintro e w' ⟨rfl, rfl⟩)
      | (go_at_call 29; refine (refless04_any _ _ _ (by omega)).mono ?_; rintro e w' ⟨rfl, hn⟩; replace hB := below_chain hB hn; clear hn))
    go_ret
    exact ⟨rfl, hB⟩
end Go.Proofs.Ytkfjoonhgpgaiaa
