/- Walk of PathAll. -/
import Derived.Test.YtgfhaldfjnepmaaPath5
namespace Go.Proofs.Ytgfhaldfjnepmaa
open Go Go.RowKit Go.Shelf Go.Proofs
attribute [local go_sem] Oper.semAt_some

theorem isstrs_lent {w : World} {base g len : Nat} {ss : List ByteArray} (h : w.ownsRow base 9 1 (.slice (some ⟨g, 0, none⟩) (len + 12) (len + 12)) (len + 12) (lentCells ss 12))
    (h1 : ss.length = len) (hl : len ≤ 1000) (hb : ∀ s ∈ ss, s.size ≤ 140737488351232) : IsStrs w (some ⟨g, 0, none⟩) len (len + 12) ss := by
  refine ⟨h1, by omega, by omega, hb, .inr ⟨g, 0, rfl, ?_, fun j hj => ?_⟩⟩
  · rcases h.2 with ⟨h2, _⟩ | ⟨g', cap, cur, hv', _, hh, _⟩
    · cases h2
    · cases hv'; exact (Array.getElem?_eq_some_iff.1 hh).1
  · rw [Nat.zero_add]
    refine lent_cell h j _ ?_
    unfold lentCells
    rw [List.getElem?_append_left (by rw [List.length_map]; omega)]
    simp [List.getD, List.getElem?_eq_getElem (show j < ss.length by omega)]

set_option maxRecDepth 100000 in
set_option maxHeartbeats 4000000 in
theorem law_PathAll (a : Option Addr) (len cap : Nat) (ss : List ByteArray) (w : World) (hs : IsStrs w a len cap ss) :
    Calls Try.prog 3 #[.slice a len cap] w fun e w' => e = .returned (.bool true) ∧ Below w.heap.size w w' := by
  have hB := Below.refl w.heap.size w
  by_cases hl : len ≤ 60
  · have HS := Lib.hid (fun w' (hb : Below w.heap.size w w') => hs.below hb (Nat.le_refl _))
    have h1 := Lib.hid hs.1
    have h4 := Lib.hid hs.2.2.2.1
    have hlc := hs.2.1
    clear hs
    go_enter Try.func3, Try.ntmps3
    go_wp2_with fail
    go_loopw [3] (fun i wr => ∃ k : Nat, k ≤ len ∧ i = .int .i64 k ∧ Below w.heap.size w wr) (fun i _ => len - (intOf i).toNat)
    case atStart => exact ⟨0, Nat.zero_le _, rfl, hB⟩
    case round =>
      obtain ⟨k, hk, rfl, hBr⟩ := hrel
      clear hB
      have hB := hBr
      clear hBr
      have hs' := HS.out wr hB
      by_cases hk2 : k < len
      · obtain ⟨b, off, rfl, hbl, hc⟩ : ∃ b off, a = some ⟨b, off, none⟩ ∧ b < wr.heap.size ∧ ∀ j, j < len → wr.cell? ⟨b, off + j, none⟩ = some (.string (ss.getD j ByteArray.empty)) := by
          rcases hs'.2.2.2.2 with h | h
          · omega
          · exact h
        obtain ⟨s, hsk⟩ : ∃ s, ss.getD k ByteArray.empty = s := ⟨_, rfl⟩
        have hck := hc k hk2
        rw [hsk] at hck
        have hsz : s.size ≤ 140737488351232 := by
          rw [← hsk, List.getD_eq_getElem?_getD, List.getElem?_eq_getElem (by rw [h1.out]; exact hk2)]
          exact h4.out _ (List.getElem_mem _)
        clear hs' hc hsk
        by_cases h2000 : s.size ≤ 2000
        · go_wp2_with fail
          go_roundw
          case rel => exact ⟨k + 1, by omega, by go_num, hB⟩
          case measure => simp [intOf]; omega
        · have h2000' : (2000 : Int) < s.size := by omega
          clear h2000
          go_wp2_with (go_at_call 15; refine (awake10 _).mono ?_; rintro e w' ⟨rfl, hn⟩; have hB2 := hB.trans (hn.mono hB.size))
          go_ret
          exact ⟨rfl, hB2⟩
      · have hs2 := Lib.hid hs'
        clear hs'
        obtain rfl : k = len := by omega
        go_wp2_with (first
          | (go_at_call 16; refine (lent_any _ _ _ _ _ hs2.out (by omega)).mono ?_; rintro e w1 ⟨g, rfl, hg, hown1, hn1⟩; have hI1 := Lib.hid (isstrs_lent hown1 h1.out (by omega) h4.out); have hB1 := hB.trans (hn1.mono hB.size))
          | (go_at_call 17; refine (all_any _ _ _ _ _ hI1.out (by omega)).mono ?_; rintro e w2 ⟨rfl, hn2⟩; have hB2 := hB1.trans (hn2.mono hB1.size))
          | (go_at_call 18; refine (refall_any _ _ _ _ _ (HS.out _ hB2) (by omega)).mono ?_; rintro e w3 ⟨rfl, hn3⟩; have hB3 := hB2.trans (hn3.mono hB2.size); have hown3 := Lib.hid (ownsRow_below (ownsRow_below hown1 hn2 (Nat.le_refl _)) hn3 (Nat.le_refl _)))
          | (go_at_call 19; refine (kept_any _ _ _ _ _ _ _ (HS.out _ hB3) (by omega) hown3.out).mono ?_; rintro e w4 ⟨rfl, hn4⟩; have hB4 := hB3.trans (hn4.mono hB3.size))
          | (go_at_call 15; refine (awake10 _).mono ?_; rintro e w5 ⟨rfl, hn5⟩; have hB5 := hB4.trans (hn5.mono hB4.size)))
        go_ret
        exact ⟨rfl, hB5⟩
  · have hl' : (60 : Int) < len := by omega
    clear hl hs
    go_enter Try.func3, Try.ntmps3
    go_wp2_with (go_at_call 15; refine (awake10 _).mono ?_; rintro e w' ⟨rfl, hn⟩; replace hB := below_chain hB hn; clear hn)
    go_ret
    exact ⟨rfl, hB⟩
end Go.Proofs.Ytgfhaldfjnepmaa
