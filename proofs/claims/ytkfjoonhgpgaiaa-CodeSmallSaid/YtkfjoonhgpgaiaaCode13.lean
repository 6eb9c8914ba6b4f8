/- Walk of CodeSmall. -/
import Derived.Test.YtkfjoonhgpgaiaaCode10
namespace Go.Proofs.Ytkfjoonhgpgaiaa
open Go Go.RowKit Go.Shelf Go.Proofs Go.Sort
attribute [local go_sem] Oper.semAt_some

set_option maxRecDepth 100000 in
set_option maxHeartbeats 8000000 in
theorem law_CodeSmall (w : World) :
    Calls Try.prog 8 #[] w fun e w' => e = .returned (.bool true) ∧ Below w.heap.size w w' := by
  have hB0 := Below.refl w.heap.size w
  go_enter Try.func8, Try.ntmps8
  go_wp2_with fail
  go_loopw [2] (fun i wr => ∃ k : Nat, k ≤ 4096 ∧ i = .int .i64 k ∧ Below w.heap.size w wr) (fun i _ => 4096 - (intOf i).toNat)
  case atStart => exact ⟨0, Nat.zero_le _, rfl, hB0⟩
  case round =>
    clear hB0
    obtain ⟨n, hn, rfl, hB⟩ := hrel
    by_cases hn2 : n < 4096
    · have hd4096 : decide ((n : Int) < 4096) = true := decide_eq_true (by omega)
      replace hn2 := Lib.hid hn2
      go_wp2_with fail
      go_loopw [3, 4, 5] (fun x m i wr => ∃ (k M : Nat) (t : ByteArray), k ≤ 6 ∧ M < 4096 ∧ t.size ≤ k ∧ i = .int .i64 k ∧ m = .int .i64 M ∧ x = .string t ∧ Below w.heap.size w wr) (fun _ _ i _ => 6 - (intOf i).toNat)
      case atStart => exact ⟨0, n, ⟨#[]⟩, by omega, hn2.out, by decide, rfl, rfl, rfl, hB⟩
      case round =>
        clear hB
        obtain ⟨k, M, t, hk, hM, ht, rfl, rfl, rfl, hB⟩ := hrel
        by_cases hk2 : k < 6
        · have hr : (M : Int).tmod 4 = ((M % 4 : Nat) : Int) := by rw [Int.tmod_eq_emod_of_nonneg (by omega)]; omega
          have hq : (M : Int).tdiv 4 = ((M / 4 : Nat) : Int) := by rw [Int.tdiv_eq_ediv_of_nonneg (by omega)]; omega
          have hlt : M % 4 < 4 := Nat.mod_lt _ (by decide)
          have hE : ((⟨#[0, 1, 97, 255]⟩ : ByteArray).extract (M % 4) (M % 4 + 1)).size ≤ 1 := by rw [ByteArray.size_extract]; omega
          have h2 : (⟨#[0, 0]⟩ : ByteArray).size = 2 := rfl
          go_wp2_with (go_at_call 7; refine (law_CodeTells _ (by first | omega | (rw [ByteArray.size_append]; omega)) _ (by first | omega | (rw [ByteArray.size_append]; omega)) _).mono ?_; rintro e w' ⟨rfl, hn⟩; replace hB := hB.trans (hn.mono hB.size); clear hn)
          go_roundw
          case rel => exact ⟨k + 1, M / 4, t ++ (⟨#[0, 1, 97, 255]⟩ : ByteArray).extract (M % 4) (M % 4 + 1), by omega, by omega, by rw [ByteArray.size_append]; omega, by go_num, by go_num, rfl, hB⟩
          case measure => simp [intOf]; omega
        · obtain rfl : k = 6 := by omega
          go_wp2_with fail
          go_roundw
          case rel => exact ⟨n + 1, by have := hn2.out; omega, by go_num, hB⟩
          case measure => have := hn2.out; simp [intOf]; omega
    · have hdn : decide ((n : Int) < 4096) = false := decide_eq_false (by omega)
      clear hn2 hn
      go_wp2_with fail
      clear hdn
      generalize hn0 : n = n0
      clear hn0
      go_loopw [6] (fun i wr => ∃ k : Nat, k ≤ 18 ∧ i = .int .i64 k ∧ Below w.heap.size w wr) (fun i _ => 18 - (intOf i).toNat)
      case atStart => exact ⟨15, by omega, rfl, hB⟩
      case round =>
        clear hB
        obtain ⟨n, hn, rfl, hB⟩ := hrel
        by_cases hn2 : n < 18
        · have hd18 : decide ((n : Int) < 18) = true := decide_eq_true (by omega)
          replace hn2 := Lib.hid hn2
          go_wp2_with fail
          go_loopw [7] (fun i wr => ∃ k : Nat, k ≤ 4 ∧ i = .int .i64 k ∧ Below w.heap.size w wr) (fun i _ => 4 - (intOf i).toNat)
          case atStart => exact ⟨0, Nat.zero_le _, rfl, hB⟩
          case round =>
            clear hB
            obtain ⟨k, hk, rfl, hB⟩ := hrel
            by_cases hk2 : k < 4
            · have hd4 : decide ((k : Int) < 4) = true := decide_eq_true (by omega)
              replace hk2 := Lib.hid hk2
              go_wp2_with fail
              go_loopw [8, 9, 10] (fun x y i wr => ∃ (j : Nat) (s c : ByteArray), j ≤ n ∧ i = .int .i64 j ∧ x = .string s ∧ y = .string c ∧ s.size ≤ j ∧ c.size ≤ 2 * j ∧ Below w.heap.size w wr) (fun _ _ i _ => n - (intOf i).toNat)
              case atStart => exact ⟨0, ⟨#[]⟩, ⟨#[]⟩, Nat.zero_le _, rfl, rfl, rfl, by decide, by decide, hB⟩
              case round =>
                clear hB
                obtain ⟨j, s, c, hj, rfl, rfl, rfl, hs, hc, hB⟩ := hrel
                have hE : ((⟨#[0, 1, 97, 255]⟩ : ByteArray).extract k (k + 1)).size ≤ 1 := by rw [ByteArray.size_extract]; omega
                have h1 : (⟨#[1]⟩ : ByteArray).size = 1 := rfl
                have h2 : (⟨#[0, 0]⟩ : ByteArray).size = 2 := rfl
                have h3 : (⟨#[0]⟩ : ByteArray).size = 1 := rfl
                have h4 : (⟨#[0, 0, 0]⟩ : ByteArray).size = 3 := rfl
                by_cases hj2 : j < n
                · have kb : (k : Int) + 1 ≤ 4 := by have := hk2.out; omega
                  by_cases h0 : k = 0
                  · subst h0
                    have hE0 : ((⟨#[0, 1, 97, 255]⟩ : ByteArray).extract 0 1).size ≤ 1 := hE
                    go_wp2_with fail
                    go_roundw
                    case rel => exact ⟨j + 1, _, _, by omega, by go_num, rfl, rfl, by rw [ByteArray.size_append]; omega, by rw [ByteArray.size_append, ByteArray.size_append]; omega, hB⟩
                    case measure => simp [intOf]; omega
                  · go_wp2_with fail
                    go_roundw
                    case rel => exact ⟨j + 1, _, _, by omega, by go_num, rfl, rfl, by rw [ByteArray.size_append]; omega, by rw [ByteArray.size_append]; omega, hB⟩
                    case measure => simp [intOf]; omega
                · obtain rfl : n = j := by omega
                  go_wp2_with (go_at_call 27; refine (tells04 _ _ (by first | omega | (rw [ByteArray.size_append]; omega))).mono ?_; rintro e w' ⟨rfl, hn⟩; replace hB := hB.trans (hn.mono hB.size); clear hn)
                  go_roundw
                  case rel => exact ⟨k + 1, by have := hk2.out; omega, by go_num, hB⟩
                  case measure => have := hk2.out; simp [intOf]; omega
            · obtain rfl : k = 4 := by omega
              go_wp2_with fail
              go_roundw
              case rel => exact ⟨n + 1, by have := hn2.out; omega, by go_num, hB⟩
              case measure => have := hn2.out; simp [intOf]; omega
        · obtain rfl : n = 18 := by omega
          go_wp2_with (go_at_call 26; refine (awake04 _).mono ?_; rintro e w' ⟨rfl, hn⟩; replace hB := hB.trans (hn.mono hB.size); clear hn)
          go_ret
          exact ⟨rfl, hB⟩
end Go.Proofs.Ytkfjoonhgpgaiaa
