/- Walks of the reference model of layer 5: Beyond, Clip, Reaches, Least. -/
import Derived.Test.YtkfjoonhgpgaiaaBound7
import Derived.RegionTactic
namespace Go.Proofs.Ytkfjoonhgpgaiaa
open Go Go.RowKit Go.Shelf Go.Proofs
attribute [local go_sem] Oper.semAt_some
attribute [local go_sem ↓] Go.wp_at_zero Go.wp_at_succ

theorem beyondV_hit (s : ByteArray) (k : Nat) (hk : k < s.size) (h1 : ∀ j (h : j < s.size), k < j → s[j] = 255) (h2 : s[k] ≠ 255) :
    beyondV s = .tuple #[.string (s.extract 0 k ++ ⟨#[s[k] + 1]⟩), .bool true] := by
  have e : by_ s = (by_ s).take k ++ s[k] :: (by_ s).drop (k + 1) := by
    have h3 : (by_ s)[k]'(by rw [size_by]; exact hk) = s[k] := by
      have := by_get s k hk
      rw [List.getElem?_eq_getElem (by rw [size_by]; exact hk)] at this
      exact Option.some.inj this
    rw [← h3, List.getElem_cons_drop, List.take_append_drop]
  have hb : beyondL (by_ s) = some ((by_ s).take k ++ [s[k] + 1]) := by
    conv => lhs; rw [e]
    refine beyondL_some _ _ _ (fun x hx => ?_) h2
    obtain ⟨j, hj, hx⟩ := List.getElem_of_mem hx
    rw [List.length_drop, size_by] at hj
    rw [List.getElem_drop] at hx
    have h4 := h1 (k + 1 + j) (by omega) (by omega)
    have h5 := by_get s (k + 1 + j) (by omega)
    rw [List.getElem?_eq_getElem (by rw [size_by]; omega)] at h5
    rw [← hx, Option.some.inj h5, h4]
  have e1 : s.extract 0 k ++ ⟨#[s[k] + 1]⟩ = bs ((by_ s).take k ++ [s[k] + 1]) := by
    rw [extract_bs, show (⟨#[s[k] + 1]⟩ : ByteArray) = bs [s[k] + 1] from rfl, bs_append, List.drop_zero]
  unfold beyondV
  rw [hb, e1]
  rfl

theorem beyondV_miss (s : ByteArray) (h1 : ∀ j (h : j < s.size), s[j] = 255) : beyondV s = .tuple #[.string ⟨#[]⟩, .bool false] := by
  unfold beyondV
  rw [beyondL_none]
  · rfl
  · intro x hx
    obtain ⟨j, hj, hx⟩ := List.getElem_of_mem hx
    rw [size_by] at hj
    have h5 := by_get s j hj
    rw [List.getElem?_eq_getElem (by rw [size_by]; omega)] at h5
    rw [← hx, Option.some.inj h5, h1 j hj]

set_option maxRecDepth 100000 in
set_option maxHeartbeats 4000000 in
theorem refbeyond_any (s : ByteArray) (w : World) (hs : s.size ≤ 281474976710656) :
    Calls Try.prog 43 #[.string s] w fun e w' => e = .returned (beyondV s) ∧ Below w.heap.size w w' := by
  have hB0 := Below.refl w.heap.size w
  go_enter Try.func43, Try.ntmps43
  go_wp2_with fail
  go_loopw [4] (fun i wr => ∃ k : Nat, k ≤ s.size ∧ i = .int .i64 ((k : Int) - 1) ∧ Hid (∀ j (h : j < s.size), k ≤ j → s[j] = 255) ∧ Below w.heap.size w wr) (fun i _ => (intOf i + 1).toNat)
  case atStart => exact ⟨s.size, Nat.le_refl _, rfl, Lib.hid (fun j h h2 => by omega), hB0⟩
  case round =>
    obtain ⟨k, hk, rfl, H, hB⟩ := hrel
    clear hB0
    cases k with
    | zero =>
      have HV := Lib.hid (beyondV_miss s (fun j h => H.out j h (Nat.zero_le _)))
      clear H
      have hd : decide ((0 : Int) ≤ ((0 : Nat) : Int) - 1) = false := by decide
      go_wp2_with fail
      refine bodyPost_ret (v := beyondV s) (by rw [HV.out]; simp [results, Try.f43, go_sem]) rfl ⟨rfl, hB⟩
    | succ k =>
      have hkk : ((k + 1 : Nat) : Int) - 1 = (k : Int) := by omega
      have k1 : k < s.size := by omega
      have k2 : (k : Int) ≤ (s.size : Int) := by omega
      by_cases h255 : s[k] = 255
      · have HN : Hid (∀ j (h : j < s.size), k ≤ j → s[j] = 255) := Lib.hid (fun j h h2 => by
          by_cases e : j = k
          · subst e; exact h255
          · exact H.out j h (by omega))
        have hn : decide ((s[k].toNat : Int) < 255) = false := by rw [h255]; decide
        have hn2 : decide (s[k].toNat < 255) = false := by rw [h255]; decide
        clear h255 H
        rw [hkk]
        go_wp2_with fail
        go_roundw
        case rel => exact ⟨k, by omega, by go_num, HN, hB⟩
        case measure => simp [intOf] <;> omega
      · have HV := Lib.hid (beyondV_hit s k k1 (fun j h h2 => H.out j h (by omega)) h255)
        have hlt : s[k].toNat < 255 := by
          have := UInt8.toNat_lt s[k]
          have h3 : s[k].toNat ≠ 255 := fun e => h255 (UInt8.toNat_inj.1 (by simpa using e))
          omega
        have hn : decide ((s[k].toNat : Int) < 255) = true := decide_eq_true (by omega)
        have hn2 : decide (s[k].toNat < 255) = true := decide_eq_true hlt
        clear h255 H
        rw [hkk]
        have hcv := fun n W c => conv1 (P := Try.prog) 44 9 5 Try.underlying44 Try.underlying5 Try.underlying9 n W c
        have hcvd := fun n W c => conv1d (P := Try.prog) 44 9 5 Try.underlying44 Try.underlying5 Try.underlying9 n W c
        go_wp2_with fail
        go_region
        go_wp2_with fail
        refine bodyPost_ret (v := beyondV s) (by rw [HV.out]; simp [results, Try.f43, go_sem]) rfl ⟨rfl, (hB.alloc hB.size _).drew⟩

theorem clip_step (s : ByteArray) (k : Nat) (h : k < s.size) : bs ((by_ s).take k) ++ s.extract k (k + 1) = bs ((by_ s).take (k + 1)) := by
  rw [extract_bs, bs_append]
  congr 1
  rw [List.take_add_one, List.drop_append_of_le_length (by rw [List.length_take, size_by]; omega)]
  rw [List.drop_of_length_le (by rw [List.length_take, size_by]; omega)]
  simp

set_option maxRecDepth 100000 in
set_option maxHeartbeats 4000000 in
theorem refclip_any (s : ByteArray) (n : Int) (w : World) (hs : s.size ≤ 281474976710656) :
    Calls Try.prog 45 #[.string s, .int .i64 n] w fun e w' => e = .returned (.string (bs ((by_ s).take n.toNat))) ∧ Below w.heap.size w w' := by
  obtain ⟨N, hN⟩ : ∃ N, N = min s.size n.toNat := ⟨_, rfl⟩
  have hend : Hid (bs ((by_ s).take n.toNat) = bs ((by_ s).take N)) := Lib.hid (by
    rw [hN]
    by_cases h : n.toNat ≤ s.size
    · rw [Nat.min_eq_right h]
    · rw [Nat.min_eq_left (by omega), List.take_of_length_le (by rw [size_by]; omega), List.take_of_length_le (by rw [size_by]; omega)])
  have HST := Lib.hid (clip_step s)
  have HSZ := Lib.hid (fun k => (show (bs ((by_ s).take k)).size ≤ s.size by rw [size_bs, List.length_take, size_by]; omega))
  rw [hend.out]
  have hB0 := Below.refl w.heap.size w
  go_enter Try.func45, Try.ntmps45
  go_wp2_with fail
  go_loopw [5, 6] (fun o i wr => ∃ k : Nat, k ≤ N ∧ i = .int .i64 k ∧ o = .string (bs ((by_ s).take k)) ∧ Below w.heap.size w wr) (fun _ i _ => N - (intOf i).toNat)
  case atStart => exact ⟨0, Nat.zero_le _, rfl, by simp [bs], hB0⟩
  case round =>
    obtain ⟨k, hk, rfl, rfl, hB⟩ := hrel
    clear hB0
    by_cases hkN : k < N
    · have k1 : k < s.size := by omega
      have k2 : (k : Int) < n := by omega
      have k3 : (k : Int) + 1 ≤ (s.size : Int) := by omega
      have hst := HST.out k k1
      have hsz := HSZ.out k
      clear hN
      go_wp2_with fail
      go_roundw
      case rel => exact ⟨k + 1, by omega, by go_num, by rw [← hst], hB⟩
      case measure => simp [intOf]; omega
    · obtain rfl : k = N := by omega
      by_cases k1 : k < s.size
      · have hd : decide ((k : Int) < n) = false := decide_eq_false (by omega)
        clear hN
        go_wp2_with fail
        go_ret
        exact ⟨rfl, hB⟩
      · clear hN
        go_wp2_with fail
        go_ret
        exact ⟨rfl, hB⟩

theorem reaches_ref (p b : ByteArray) : (beyondL (by_ p) = none → reachesB (by_ p) (by_ b) = true) ∧ (∀ t, beyondL (by_ p) = some t → reachesB (by_ p) (by_ b) = lessB b (bs t)) := by
  have key : reachesB (by_ p) (by_ b) = true ↔ ∀ t, beyondL (by_ p) = some t → by_ b < t := by
    unfold reachesB
    rw [leB_true]
    constructor
    · intro h t ht
      by_cases h1 : by_ p < by_ b
      · have h2 := begins_of_le h h1
        exact ((begins_iff (by_ p) (by_ b)).1 (by rw [← h2]; simp [List.take_prefix])).2 t ht
      · have h3 := (beyondL_above ht).1
        by_cases h4 : by_ p = by_ b
        · rw [← h4]; exact h3
        · exact lex_trans (lex_tri h1 h4) h3
    · intro h h1
      have h2 := lt_of_take [] h1
      rw [List.append_nil] at h2
      have h3 := (begins_iff (by_ p) (by_ b)).2 ⟨lex_asymm h2, h⟩
      rw [← List.prefix_iff_eq_take.1 h3] at h1
      exact lex_irrefl _ h1
  refine ⟨fun h => key.2 (fun t ht => by rw [h] at ht; cases ht), fun t ht => ?_⟩
  unfold lessB
  rw [by_bs]
  by_cases hb : by_ b < t
  · rw [decide_eq_true hb, key]
    intro t' ht'
    rw [ht] at ht'; cases ht'; exact hb
  · rw [decide_eq_false hb]
    cases hr : reachesB (by_ p) (by_ b) with
    | false => rfl
    | true => exact absurd (key.1 hr t ht) hb
end Go.Proofs.Ytkfjoonhgpgaiaa
