/- Walk of BoundTells. -/
import Derived.Test.YtkfjoonhgpgaiaaBound10
namespace Go.Proofs.Ytkfjoonhgpgaiaa
open Go Go.RowKit Go.Shelf Go.Proofs
attribute [local go_sem] Oper.semAt_some

set_option maxRecDepth 100000 in
set_option maxHeartbeats 4000000 in
theorem law_BoundTells (p : ByteArray) (hp : p.size ≤ 140737488351232) (s : ByteArray) (hs : s.size ≤ 140737488351232) (n : Int) (_hn : -9223372036854775808 ≤ n ∧ n ≤ 9223372036854775807)
    (a : Option Addr) (len cap : Nat) (ss : List ByteArray) (w : World) (hss : IsStrs w a len cap ss) :
    Calls Try.prog 5 #[.string p, .string s, .int .i64 n, .slice a len cap] w fun e w' => e = .returned (.bool true) ∧ Below w.heap.size w w' := by
  clear _hn
  have hB := Below.refl w.heap.size w
  have HS := Lib.hid (fun w' (hb : Below w.heap.size w w') => hss.below hb (Nat.le_refl _))
  have h1 := Lib.hid hss.1
  have h4 := Lib.hid hss.2.2.2.1
  have hlc := hss.2.1
  have hcap := hss.2.2.1.2
  clear hss
  go_enter Try.func5, Try.ntmps5
  go_wp2_with fail
  go_loopw [9, 10] (fun m i wr => ∃ k M : Nat, k ≤ len ∧ i = .int .i64 k ∧ m = .int .i64 M ∧ len ≤ M ∧ M ≤ 1000000000000000 ∧ Below w.heap.size w wr) (fun _ i _ => len - (intOf i).toNat)
  case atStart => exact ⟨0, p.size + s.size + len, Nat.zero_le _, rfl, by go_num, by omega, by omega, hB⟩
  case round =>
    clear hB
    obtain ⟨k, M, hk, rfl, rfl, hM1, hM2, hB⟩ := hrel
    have hs' := HS.out wr hB
    by_cases hM : M ≤ 1000
    · by_cases hk2 : k < len
      · obtain ⟨b, off, rfl, hbl, hc⟩ : ∃ b off, a = some ⟨b, off, none⟩ ∧ b < wr.heap.size ∧ ∀ j, j < len → wr.cell? ⟨b, off + j, none⟩ = some (.string (ss.getD j ByteArray.empty)) := by
          rcases hs'.2.2.2.2 with h | h
          · omega
          · exact h
        obtain ⟨x, hsk⟩ : ∃ s, ss[k]? = some s := ⟨_, List.getElem?_eq_getElem (by rw [h1.out]; exact hk2)⟩
        have hck := hc k hk2
        rw [List.getD_eq_getElem?_getD, hsk] at hck
        simp only [Option.getD_some] at hck
        have hsz : x.size ≤ 140737488351232 := h4.out _ (List.mem_of_getElem? hsk)
        clear hs' hc hsk
        go_wp2_with fail
        go_roundw
        case rel => exact ⟨k + 1, M + x.size, by omega, by go_num, by go_num, by omega, by omega, hB⟩
        case measure => simp [intOf] <;> omega
      · have hs2 := Lib.hid hs'
        clear hs'
        obtain rfl : len = k := by omega
        go_wp2_with (first
          | (go_at_call 21; refine (lent_any _ _ _ _ _ hs2.out (by omega)).mono ?_; rintro e w1 ⟨g, rfl, hg, hown1, hn1⟩; have hI1 := Lib.hid (isstrs_lent hown1 h1.out (by omega) h4.out); have hB1 := hB.trans (hn1.mono hB.size); have HO := Lib.hid (fun w' (hb : Below w1.heap.size w1 w') => ownsRow_below hown1 hb (Nat.le_refl _)); have hX := Below.refl w1.heap.size w1; clear hown1 hn1 hg)
          | (go_at_call 22; refine (tells05 _ _ _ _ (by omega) (by omega)).mono ?_; rintro e w2 ⟨rfl, hn2⟩; replace hX := below_chain hX hn2; clear hn2)
          | (go_at_call 23; refine (max_any _ _ _ _ _ (hI1.out.below hX (Nat.le_refl _)) (by omega)).mono ?_; rintro e w3 ⟨rfl, hn3⟩; replace hX := below_chain hX hn3; clear hn3)
          | (go_at_call 24; refine (refmax_any _ _ _ _ _ (HS.out _ (hB1.trans (hX.mono hB1.size))) (by omega)).mono ?_; rintro e w3 ⟨rfl, hn3⟩; replace hX := below_chain hX hn3; clear hn3)
          | (go_at_call 25; refine (kept_any _ _ _ _ _ _ _ (HS.out _ (hB1.trans (hX.mono hB1.size))) (by omega) (HO.out _ hX)).mono ?_; rintro e w4 ⟨rfl, hn4⟩; replace hX := below_chain hX hn4; clear hn4)
          | (go_at_call 15; refine (awake05 _).mono ?_; rintro e w5 ⟨rfl, hn5⟩; replace hX := below_chain hX hn5; clear hn5))
        go_ret
        exact ⟨rfl, hB1.trans (hX.mono hB1.size)⟩
    · clear hs'
      have hM' : (1000 : Int) < (M : Int) := by omega
      by_cases hk2 : k < len
      · go_wp2_with (go_at_call 15; refine (awake05 _).mono ?_; rintro e w5 ⟨rfl, hn5⟩; have hB5 := hB.trans (hn5.mono hB.size))
        go_ret
        exact ⟨rfl, hB5⟩
      · go_wp2_with (go_at_call 15; refine (awake05 _).mono ?_; rintro e w5 ⟨rfl, hn5⟩; have hB5 := hB.trans (hn5.mono hB.size))
        go_ret
        exact ⟨rfl, hB5⟩
end Go.Proofs.Ytkfjoonhgpgaiaa
