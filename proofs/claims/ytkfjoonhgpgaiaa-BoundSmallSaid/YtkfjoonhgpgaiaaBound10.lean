/- Walks: the greatest of bounds; BoundTells. -/
import Derived.Test.YtkfjoonhgpgaiaaBound9
namespace Go.Proofs.Ytkfjoonhgpgaiaa
open Go Go.RowKit Go.Shelf Go.Proofs
attribute [local go_sem] Oper.semAt_some

theorem isstrs_lent {w : World} {base g len : Nat} {ss : List ByteArray} (h : w.ownsRow base 9 1 (.slice (some ⟨g, 0, none⟩) (len + 12) (len + 12)) (len + 12) (lentCells ss 12))
    (h1 : ss.length = len) (hl : len ≤ 1000) (hb : ∀ s ∈ ss, s.size ≤ 140737488351232) : IsStrs w (some ⟨g, 0, none⟩) len (len + 12) ss := by
  refine ⟨h1, by omega, by omega, hb, .inr ⟨g, 0, rfl, ?_, fun j hj => ?_⟩⟩
  · rcases h.2 with ⟨h2, _⟩ | ⟨g', cap, cur, hv', _, hh, _⟩
    · cases h2
    · cases hv'; exact (Array.getElem?_eq_some_iff.1 hh).1
  · rw [Nat.zero_add]
    refine lent_cell h j _ ?_
    unfold lentCells
    rw [List.getElem?_append_left (by rw [List.length_map]; omega)]
    simp [List.getD, List.getElem?_eq_getElem (show j < ss.length by omega)]

/-- The greatest of texts; the empty one, if there are none. -/
def maxF (ss : List ByteArray) : ByteArray := ss.foldl Lib.maxS ⟨#[]⟩

theorem maxF_cons (s : ByteArray) (r : List ByteArray) : maxF (s :: r) = r.foldl Lib.maxS s := by
  have : Lib.maxS ⟨#[]⟩ s = s := by
    unfold Lib.maxS
    by_cases h : ([] : List UInt8) < s.data.toList
    · rw [if_pos h]
    · rw [if_neg h]
      have h2 : s.data.toList = [] := by
        cases hs : s.data.toList with
        | nil => rfl
        | cons a l => rw [hs] at h; exact absurd (nil_lt a l) h
      exact by_inj (by unfold by_; rw [h2])
  simp [maxF, this]

theorem foldl_take_succ (f : ByteArray → ByteArray → ByteArray) (z x : ByteArray) (ss : List ByteArray) (k : Nat) (h : ss[k]? = some x) : (ss.take (k + 1)).foldl f z = f ((ss.take k).foldl f z) x := by
  rw [List.take_add_one, h, List.foldl_append]
  rfl

theorem maxS_size (a b : ByteArray) (n : Nat) (h1 : a.size ≤ n) (h2 : b.size ≤ n) : (Lib.maxS a b).size ≤ n := by
  unfold Lib.maxS
  split <;> assumption

set_option maxRecDepth 100000 in
set_option maxHeartbeats 4000000 in
theorem refmax_any (a : Option Addr) (len cap : Nat) (ss : List ByteArray) (w : World) (hs : IsStrs w a len cap ss) (hl : len ≤ 1000) :
    Calls Try.prog 24 #[.slice a len cap] w fun e w' => e = .returned (.string (maxF ss)) ∧ Below w.heap.size w w' := by
  have HS := Lib.hid (fun w' (hb : Below w.heap.size w w') => hs.below hb (Nat.le_refl _))
  have h1 := Lib.hid hs.1
  have h4 := Lib.hid hs.2.2.2.1
  have hlc := hs.2.1
  clear hs
  have hB0 := Below.refl w.heap.size w
  go_enter Try.func24, Try.ntmps24
  go_wp2_with fail
  go_loopw [3, 4] (fun m i wr => ∃ (k : Nat) (M : ByteArray), k ≤ len ∧ i = .int .i64 k ∧ m = .string M ∧ Hid (M = (ss.take k).foldl Lib.maxS ⟨#[]⟩) ∧ M.size ≤ 140737488351232 ∧ Below w.heap.size w wr) (fun _ i _ => len - (intOf i).toNat)
  case atStart => exact ⟨0, ⟨#[]⟩, Nat.zero_le _, rfl, rfl, Lib.hid rfl, Nat.zero_le _, hB0⟩
  case round =>
    obtain ⟨k, M, hk, rfl, rfl, HM, hMs, hB⟩ := hrel
    clear hB0
    have hs' := HS.out wr hB
    by_cases hk2 : k < len
    · obtain ⟨b, off, rfl, hbl, hc⟩ : ∃ b off, a = some ⟨b, off, none⟩ ∧ b < wr.heap.size ∧ ∀ j, j < len → wr.cell? ⟨b, off + j, none⟩ = some (.string (ss.getD j ByteArray.empty)) := by
        rcases hs'.2.2.2.2 with h | h
        · omega
        · exact h
      obtain ⟨s, hsk⟩ : ∃ s, ss[k]? = some s := ⟨_, List.getElem?_eq_getElem (by rw [h1.out]; exact hk2)⟩
      have hck := hc k hk2
      rw [List.getD_eq_getElem?_getD, hsk] at hck
      simp only [Option.getD_some] at hck
      have hsz : s.size ≤ 140737488351232 := h4.out _ (List.mem_of_getElem? hsk)
      have HST := Lib.hid (foldl_take_succ Lib.maxS ⟨#[]⟩ s ss k hsk)
      have HK := Lib.hid (fun w' (hb : Below wr.heap.size wr w') => (hb.cell (p := ⟨b, off + k, none⟩) hbl).trans hck)
      clear hs' hc hsk
      cases hless : lessB M s with
      | true =>
        have HX : Hid (Lib.maxS M s = s) := Lib.hid (by unfold Lib.maxS; rw [if_pos (show M.data.toList < s.data.toList from of_decide_eq_true hless)])
        go_wp2_with (go_at_call 49; refine (refless_any _ _ _ (by omega)).mono ?_; rintro e w2 ⟨rfl, hn2⟩; have hck2 := HK.out w2 hn2)
        go_roundw
        case rel => exact ⟨k + 1, s, by omega, by go_num, rfl, Lib.hid (by rw [HST.out, ← HM.out, HX.out]), hsz, hB.trans (hn2.mono hB.size)⟩
        case measure => simp [intOf] <;> omega
      | false =>
        have HX : Hid (Lib.maxS M s = M) := Lib.hid (by unfold Lib.maxS; rw [if_neg (show ¬ M.data.toList < s.data.toList from of_decide_eq_false hless)])
        go_wp2_with (go_at_call 49; refine (refless_any _ _ _ (by omega)).mono ?_; rintro e w2 ⟨rfl, hn2⟩)
        go_roundw
        case rel => exact ⟨k + 1, M, by omega, by go_num, rfl, Lib.hid (by rw [HST.out, ← HM.out, HX.out]), hMs, hB.trans (hn2.mono hB.size)⟩
        case measure => simp [intOf] <;> omega
    · obtain rfl : len = k := by omega
      clear hs'
      go_wp2
      go_ret
      exact ⟨ret_str (by rw [HM.out, ← h1.out, List.take_length]; rfl), hB⟩

set_option maxRecDepth 100000 in
set_option maxHeartbeats 4000000 in
theorem slmax_any (b off len cap : Nat) (s : ByteArray) (r : List ByteArray) (w : World) (hs : IsStrs w (some ⟨b, off, none⟩) len cap (s :: r)) (hl : len ≤ 1000) :
    Calls Try.prog 48 #[.slice (some ⟨b, off, none⟩) len cap] w fun e w' => e = .returned (.string (maxF (s :: r))) ∧ Below w.heap.size w w' := by
  have hmx := fun (w : World) ts t (x y : ByteArray) => Lib.run_max_strs (P := Try.prog) w ts t x y
  have hlr : r.length + 1 = len := by simpa using hs.1
  have HC : Hid (∀ j, j < len → w.cell? ⟨b, off + j, none⟩ = some (.string ((s :: r).getD j ByteArray.empty))) := Lib.hid (by
    rcases hs.2.2.2.2 with h | ⟨b', off', h, _, hc⟩
    · omega
    · cases h; exact hc)
  have hc0 := HC.out 0 (by omega)
  rw [Nat.add_zero, List.getD_cons_zero] at hc0
  have hlc := hs.2.1
  clear hs
  have h1len : ¬ (len : Int) < 1 := by omega
  have h0len : 0 < len := by omega
  rw [maxF_cons]
  go_enter Try.func48, Try.ntmps48
  go_wp2_with fail
  go_loop [3, 4] (fun m i => ∃ (k : Nat) (M : ByteArray), k ≤ r.length ∧ i = .int .i64 ((k : Int) + 1) ∧ m = .string M ∧ Hid (M = (r.take k).foldl Lib.maxS s)) (fun _ i => len - (intOf i).toNat)
  case atStart => exact ⟨0, s, Nat.zero_le _, rfl, rfl, Lib.hid rfl⟩
  case round =>
    obtain ⟨k, M, hk, rfl, rfl, HM⟩ := hrel
    by_cases hk2 : k < r.length
    · obtain ⟨x, hx⟩ : ∃ x, r[k]? = some x := ⟨_, List.getElem?_eq_getElem hk2⟩
      have hck := HC.out (k + 1) (by omega)
      rw [List.getD_cons_succ, List.getD_eq_getElem?_getD, hx] at hck
      simp only [Option.getD_some] at hck
      have HST := Lib.hid (foldl_take_succ Lib.maxS s x r k hx)
      have hkl : (k : Int) + 1 < (len : Int) := by omega
      have hkn : k + 1 < len := by omega
      clear hx
      go_wp2_with fail
      go_round
      case rel => exact ⟨k + 1, Lib.maxS M x, by omega, by go_num, rfl, Lib.hid (by rw [HST.out, HM.out])⟩
      case measure => simp [intOf] <;> omega
    · obtain rfl : k = r.length := by omega
      have hlen : ¬ ((r.length : Int) + 1 < (len : Int)) := by omega
      go_wp2
      go_ret
      exact ⟨ret_str (by rw [HM.out, List.take_length]), Below.refl _ _⟩

set_option maxRecDepth 100000 in
theorem max_any (a : Option Addr) (len cap : Nat) (ss : List ByteArray) (w : World) (hs : IsStrs w a len cap ss) (hl : len ≤ 1000) :
    Calls Try.prog 23 #[.slice a len cap] w fun e w' => e = .returned (.string (maxF ss)) ∧ Below w.heap.size w w' := by
  cases ss with
  | nil =>
    obtain rfl : len = 0 := by have := hs.1; simpa using this.symm
    clear hs
    go_enter Try.func23, Try.ntmps23
    go_wp2
    go_ret
    exact ⟨rfl, Below.refl _ _⟩
  | cons s r =>
    have hlr : r.length + 1 = len := by simpa using hs.1
    obtain ⟨b, off, rfl⟩ : ∃ b off, a = some ⟨b, off, none⟩ := by
      rcases hs.2.2.2.2 with h | ⟨b, off, h, _⟩
      · omega
      · exact ⟨b, off, h⟩
    have hne : ((len : Int) == 0) = false := by simp; omega
    have HS := Lib.hid hs
    clear hs
    go_enter Try.func23, Try.ntmps23
    go_wp2_with (go_at_call 48; refine (slmax_any _ _ _ _ _ _ _ HS.out hl).mono ?_; rintro e w' ⟨rfl, hn⟩)
    go_ret
    exact ⟨rfl, hn⟩
end Go.Proofs.Ytkfjoonhgpgaiaa
