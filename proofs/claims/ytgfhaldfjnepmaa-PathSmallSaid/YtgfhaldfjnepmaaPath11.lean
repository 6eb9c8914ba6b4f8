/- Walks of the statements of layer 10: tells, PathTells, PathJoins. -/
import Derived.Test.YtgfhaldfjnepmaaPathJ
import Derived.Test.YtgfhaldfjnepmaaPath5
namespace Go.Proofs.Ytgfhaldfjnepmaa
open Go Go.RowKit Go.Shelf Go.Proofs
attribute [local go_sem] Oper.semAt_some

theorem cutV_parts (s : ByteArray) (n : Int) : ∃ a b c d, cutV s n = .tuple #[.string a, .int .u8 b, .string c, .bool d] := by
  unfold cutV
  split <;> exact ⟨_, _, _, _, rfl⟩

set_option maxRecDepth 100000 in
set_option maxHeartbeats 4000000 in
theorem tells10 (s t : ByteArray) (n : Int) (w : World) (hs : s.size ≤ 1000000000000) (ht : t.size ≤ 1000000000000) :
    Calls Try.prog 22 #[.string s, .string t, .int .i64 n] w fun e w' => e = .returned (.bool true) ∧ Below w.heap.size w w' := by
  obtain ⟨a, b, c, d, hV⟩ := cutV_parts s n
  have hB := Below.refl w.heap.size w
  go_enter Try.func22, Try.ntmps22
  go_wp2_with (first
    | (go_at_call 24; refine (cut_any _ _ _ (by omega)).mono ?_; rw [hV]; rintro e w' ⟨rfl, hn⟩; replace hB := below_chain hB hn; clear hn)
    | (go_at_call 53; refine (refcut_any _ _ _ (by omega)).mono ?_; rw [hV]; rintro e w' ⟨rfl, hn⟩; replace hB := below_chain hB hn; clear hn)
    | (go_at_call 23; refine (common_any _ _ _ (by omega)).mono ?_; rintro e w' ⟨rfl, hn⟩; replace hB := below_chain hB hn; clear hn)
    | (go_at_call 51; refine (refcommon_any _ _ _ (by omega)).mono ?_; rintro e w' ⟨rfl, hn⟩; replace hB := below_chain hB hn; clear hn)
    | (go_at_call 20; refine (begins_any _ _ _).mono ?_; rintro e w' ⟨rfl, rfl⟩)
    | (go_at_call 54; refine (refbegins_any _ _ _ (by omega)).mono ?_; rintro e w' ⟨rfl, hn⟩; replace hB := below_chain hB hn; clear hn)
    | (go_at_call 26; refine (rest_any _ _ _).mono ?_; rintro e w' ⟨rfl, hn⟩; replace hB := below_chain hB hn; clear hn)
    | (go_at_call 55; refine (refrest_any _ _ _).mono ?_; rintro e w' ⟨rfl, rfl⟩)
    | (go_at_call 25; refine (join_any _ _ _ _ (by omega) (by omega)).mono ?_; rintro e w' ⟨rfl, hn⟩; replace hB := below_chain hB hn; clear hn)
    | (go_at_call 56; refine (refjoin_any _ _ _ _ (by omega) (by omega)).mono ?_; rintro e w' ⟨rfl, hn⟩; replace hB := below_chain hB hn; clear hn))
  go_ret
  exact ⟨rfl, hB⟩

set_option maxRecDepth 100000 in
set_option maxHeartbeats 2000000 in
theorem law_PathTells (s : ByteArray) (hs : s.size ≤ 140737488351232) (t : ByteArray) (ht : t.size ≤ 140737488351232) (n : Int) (hn : -9223372036854775808 ≤ n ∧ n ≤ 9223372036854775807) (w : World) :
    Calls Try.prog 5 #[.string s, .string t, .int .i64 n] w fun e w' => e = .returned (.bool true) ∧ Below w.heap.size w w' := by
  clear hn
  have hB := Below.refl w.heap.size w
  have hcase : (2000 : Int) < (s.size : Int) ∨ (¬ (2000 : Int) < (s.size : Int) ∧ (2000 : Int) < (t.size : Int)) ∨ (¬ (2000 : Int) < (s.size : Int) ∧ ¬ (2000 : Int) < (t.size : Int)) := by omega
  rcases hcase with h1 | ⟨h1, h2⟩ | ⟨h1, h2⟩
  all_goals
    go_enter Try.func5, Try.ntmps5
    go_wp2_with (first
      | (go_at_call 15; refine (awake10 _).mono ?_; rintro e w' ⟨rfl, hn⟩; replace hB := below_chain hB hn; clear hn)
      | (go_at_call 22; refine (tells10 _ _ _ _ (by omega) (by omega)).mono ?_; rintro e w' ⟨rfl, hn⟩; replace hB := below_chain hB hn; clear hn)
      | (go_at_call 21; refine (pick_any _ _ _ (by omega) (by omega)).mono ?_; rintro e w3 ⟨⟨kk, rfl, hkk, -⟩, rfl⟩))
    go_ret
    exact ⟨rfl, hB⟩
end Go.Proofs.Ytgfhaldfjnepmaa
