/- Walks of CodeBack and CodeOrder. -/
import Derived.Test.YtkfjoonhgpgaiaaCode10
namespace Go.Proofs.Ytkfjoonhgpgaiaa
open Go Go.RowKit Go.Shelf Go.Proofs Go.Sort
attribute [local go_sem] Oper.semAt_some

theorem dec_enc {xs : List UInt8} (h : xs.length ≤ 16) : decL (encC xs) = some xs := (decL_iff _ _).2 ⟨h, rfl⟩

theorem encV_ok {s : ByteArray} (h : s.size ≤ 16) : encV s = .tuple #[.string (bs (encC (by_ s))), .int .i64 0] := by unfold encV; rw [if_pos h]
theorem encV_long {s : ByteArray} (h : ¬ s.size ≤ 16) : encV s = .tuple #[.string ⟨#[]⟩, .int .i64 3] := by unfold encV; rw [if_neg h]
theorem decV_some {s : ByteArray} {xs : List UInt8} (h : decL (by_ s) = some xs) : decV s = .tuple #[.string (bs xs), .int .i64 0] := by unfold decV; rw [h]
theorem decV_non {s : ByteArray} (h : decL (by_ s) = none) : decV s = .tuple #[.string ⟨#[]⟩, .int .i64 4] := by unfold decV; rw [h]

set_option maxRecDepth 100000 in
set_option maxHeartbeats 4000000 in
theorem law_CodeBack (s : ByteArray) (hs : s.size ≤ 140737488351232) (w : World) :
    Calls Try.prog 9 #[.string s] w fun e w' => e = .returned (.bool true) ∧ Below w.heap.size w w' := by
  have hB := Below.refl w.heap.size w
  by_cases h1000 : s.size ≤ 1000
  · by_cases h16 : s.size ≤ 16
    · have hV := encV_ok h16
      obtain ⟨c, hc⟩ : ∃ c, c = bs (encC (by_ s)) := ⟨_, rfl⟩
      have hlc := encC_length (by_ s)
      rw [size_by] at hlc
      have hcs : c.size = (encC (by_ s)).length := by rw [hc, size_bs]
      have hD : decV c = .tuple #[.string s, .int .i64 0] := by rw [decV_some (xs := by_ s) (by rw [hc, by_bs]; exact dec_enc (by rw [size_by]; exact h16)), bs_by]
      have hI : decB c = true := by unfold decB; rw [hc, by_bs, dec_enc (by rw [size_by]; exact h16)]; rfl
      rw [← hc] at hV
      rw [← hcs] at hlc
      clear hcs hc
      cases hd : decL (by_ s) with
      | none =>
        have hD2 := decV_non hd
        have hI2 : decB s = false := by unfold decB; rw [hd]; rfl
        clear hd
        go_enter Try.func9, Try.ntmps9
        go_wp2_with (first
          | (go_at_call 26; refine (awake04 _).mono ?_; rintro e w' ⟨rfl, hn⟩; replace hB := below_chain hB hn; clear hn)
          | (go_at_call 30; refine (encode_any _ _ (by omega)).mono ?_; rw [hV]; rintro e w' ⟨rfl, hn⟩; replace hB := below_chain hB hn; clear hn)
          | (go_at_call 31; refine (decode_any _ _ (by omega)).mono ?_; (first | rw [hD] | rw [hD2]); rintro e w' ⟨rfl, hn⟩; replace hB := below_chain hB hn; clear hn)
          | (go_at_call 32; refine (is_any _ _ (by omega)).mono ?_; rintro e w' ⟨rfl, hn⟩; replace hB := below_chain hB hn; clear hn))
        go_ret
        exact ⟨rfl, hB⟩
      | some xs =>
        obtain ⟨hx16, hsx⟩ := (decL_iff _ _).1 hd
        have hD2 := decV_some hd
        have hV2 : encV (bs xs) = .tuple #[.string s, .int .i64 0] := by rw [encV_ok (by rw [size_bs]; exact hx16), by_bs, ← hsx, bs_by]
        have hxs : (bs xs).size ≤ 16 := by rw [size_bs]; exact hx16
        generalize bs xs = d at hD2 hV2 hxs
        clear hd hsx hx16
        go_enter Try.func9, Try.ntmps9
        go_wp2_with (first
          | (go_at_call 26; refine (awake04 _).mono ?_; rintro e w' ⟨rfl, hn⟩; replace hB := below_chain hB hn; clear hn)
          | (go_at_call 30; refine (encode_any _ _ (by omega)).mono ?_; (first | rw [hV] | rw [hV2]); rintro e w' ⟨rfl, hn⟩; replace hB := below_chain hB hn; clear hn)
          | (go_at_call 31; refine (decode_any _ _ (by omega)).mono ?_; (first | rw [hD] | rw [hD2]); rintro e w' ⟨rfl, hn⟩; replace hB := below_chain hB hn; clear hn)
          | (go_at_call 32; refine (is_any _ _ (by omega)).mono ?_; rintro e w' ⟨rfl, hn⟩; replace hB := below_chain hB hn; clear hn))
        go_ret
        exact ⟨rfl, hB⟩
    · have hV := encV_long h16
      have h16' : (16 : Int) < s.size := by omega
      clear h16
      go_enter Try.func9, Try.ntmps9
      go_wp2_with (first
        | (go_at_call 26; refine (awake04 _).mono ?_; rintro e w' ⟨rfl, hn⟩; replace hB := below_chain hB hn; clear hn)
        | (go_at_call 30; refine (encode_any _ _ (by omega)).mono ?_; rw [hV]; rintro e w' ⟨rfl, hn⟩; replace hB := below_chain hB hn; clear hn))
      go_ret
      exact ⟨rfl, hB⟩
  · have h' : (1000 : Int) < s.size := by omega
    clear h1000
    go_enter Try.func9, Try.ntmps9
    go_wp2_with (go_at_call 26; refine (awake04 _).mono ?_; rintro e w' ⟨rfl, hn⟩; replace hB := below_chain hB hn; clear hn)
    go_ret
    exact ⟨rfl, hB⟩
end Go.Proofs.Ytkfjoonhgpgaiaa
