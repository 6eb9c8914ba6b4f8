/- Walks: is a string short; may an operation go on; where a key lies; what lies there. -/
import Derived.Test.YtgfhaldfjnepmaaBk5
import Derived.Test.YtgfhaldfjnepmaaKit1
namespace Go.Proofs.Ytgfhaldfjnepmaa
open Go Go.RowKit Go.Shelf Go.Proofs
attribute [local go_sem] Oper.semAt_some

set_option maxRecDepth 100000 in
theorem none_any {B b m : Nat} {v : Value} {K M : Nat} {ps : PS} (w : World) (h : BookAt w B b m v K M ps) :
    Calls Try.prog 61 #[.pointer (some ⟨b, 0, none⟩)] w fun e w' => e = .returned (.bool false) ∧ w' = w := by
  have h1 := h.cell.2.1
  have hq := fun w => run_eql_map_nil_sl (P := Try.prog) w 91 _ _ (some m) Try.underlying91
  go_enter Try.func61, Try.ntmps61
  go_wp2
  go_ret
  exact ⟨rfl, rfl⟩

set_option maxRecDepth 100000 in
theorem short1_any (s : ByteArray) (q most : Nat) (w : World) (h : w.cell? ⟨q, 0, none⟩ = some (.int .i64 most)) :
    Calls Try.prog 114 #[.string s, .pointer (some ⟨q, 0, none⟩)] w fun e w' => e = .returned (.bool (decide (most < s.size))) ∧ w' = w := by
  go_enter Try.func114, Try.ntmps114
  go_wp2
  go_ret
  exact ⟨ret_bool (by simp), rfl⟩

/-- The first string that is too long. -/
def firstLong (most : Nat) : List ByteArray → Nat → Int
  | [], _ => -1
  | s :: r, k => if most < s.size then k else firstLong most r (k + 1)

theorem firstLong_drop (most : Nat) (ss : List ByteArray) (k : Nat) (hk : k < ss.length) : firstLong most (ss.drop k) k = if most < (ss.getD k ByteArray.empty).size then (k : Int) else firstLong most (ss.drop (k + 1)) (k + 1) := by
  rw [List.drop_eq_getElem_cons hk]
  simp [firstLong, List.getD, List.getElem?_eq_getElem hk]

theorem firstLong_end (most : Nat) (ss : List ByteArray) (k : Nat) (hk : ss.length ≤ k) : firstLong most (ss.drop k) k = -1 := by
  rw [List.drop_eq_nil_of_le hk]; rfl

theorem firstLong_pos (most : Nat) : ∀ (ss : List ByteArray) (k : Nat), decide (0 ≤ firstLong most ss k) = ss.any (fun s => decide (most < s.size))
  | [], k => by simp [firstLong]
  | s :: r, k => by
    by_cases h : most < s.size
    · simp [firstLong, h]
    · simp only [firstLong, h, if_false, List.any_cons, decide_false, Bool.false_or]
      exact firstLong_pos most r (k + 1)

set_option maxRecDepth 100000 in
set_option maxHeartbeats 1000000 in
theorem indexfunc_any (a : Option Addr) (len cap : Nat) (ss : List ByteArray) (q most : Nat) (w : World) (hs : IsStrs w a len cap ss) (hl : len ≤ 1000) (h : w.cell? ⟨q, 0, none⟩ = some (.int .i64 most)) :
    Calls Try.prog 138 #[.slice a len cap, .func (.func 114) #[] #[.pointer (some ⟨q, 0, none⟩)]] w fun e w' => e = .returned (.int .i64 (firstLong most ss 0)) ∧ w' = w := by
  have h1 := Lib.hid hs.1
  go_enter Try.func138, Try.ntmps138
  go_wp2
  go_loopw [5, 8] (fun _ i wr => ∃ k : Nat, k ≤ len ∧ i = .int .i64 k ∧ wr = w ∧ firstLong most ss 0 = firstLong most (ss.drop k) k) (fun _ i _ => len - (intOf i).toNat)
  case atStart => exact ⟨0, by omega, rfl, rfl, by rw [List.drop_zero]⟩
  case round =>
    obtain ⟨k, hk, rfl, rfl, hf⟩ := hrel
    by_cases hk2 : k < len
    · obtain ⟨g, off, rfl, hbl, hc⟩ : ∃ g off, a = some ⟨g, off, none⟩ ∧ g < wr.heap.size ∧ ∀ j, j < len → wr.cell? ⟨g, off + j, none⟩ = some (.string (ss.getD j ByteArray.empty)) := by
        rcases hs.2.2.2.2 with h | h
        · omega
        · exact h
      have hck := hc k hk2
      clear hc
      rw [firstLong_drop most ss k (by rw [h1.out]; exact hk2)] at hf
      generalize ss.getD k ByteArray.empty = s at hck hf
      have hcall := short1_any s q most wr h
      by_cases hlong : most < s.size
      · rw [if_pos hlong] at hf
        rw [show decide (most < s.size) = true from decide_eq_true hlong] at hcall
        go_wp2_with (go_at_call 114; refine hcall.mono ?_; rintro e w' ⟨rfl, rfl⟩)
        go_ret
        exact ⟨ret_int hf.symm, rfl⟩
      · rw [if_neg hlong] at hf
        rw [show decide (most < s.size) = false from decide_eq_false hlong] at hcall
        go_wp2_with (go_at_call 114; refine hcall.mono ?_; rintro e w' ⟨rfl, rfl⟩)
        go_roundw
        case rel => exact ⟨k + 1, by omega, by go_num, (by first | trivial | rfl), hf⟩
        case measure => simp [intOf]; omega
    · obtain rfl : k = len := by omega
      rw [firstLong_end most ss k (by rw [h1.out]; exact Nat.le_refl _)] at hf
      go_wp2
      go_ret
      exact ⟨ret_int hf.symm, rfl⟩

set_option maxRecDepth 100000 in
theorem containsfunc_any (a : Option Addr) (len cap : Nat) (ss : List ByteArray) (q most : Nat) (w : World) (hs : IsStrs w a len cap ss) (hl : len ≤ 1000) (h : w.cell? ⟨q, 0, none⟩ = some (.int .i64 most)) :
    Calls Try.prog 113 #[.slice a len cap, .func (.func 114) #[] #[.pointer (some ⟨q, 0, none⟩)]] w fun e w' => e = .returned (.bool (ss.any (fun s => decide (most < s.size)))) ∧ w' = w := by
  have hf := Lib.hid (firstLong_pos most ss 0)
  go_enter Try.func113, Try.ntmps113
  go_wp2_with (go_at_call 138; refine (indexfunc_any a len cap ss q most _ hs hl h).mono ?_; rintro e w' ⟨rfl, rfl⟩)
  go_ret
  exact ⟨ret_bool hf.out, rfl⟩

def shortB (most : Nat) (ss : List ByteArray) : Bool := !ss.any (fun s => decide (most < s.size))

set_option maxRecDepth 100000 in
theorem short_any (most : Nat) (a : Option Addr) (len cap : Nat) (ss : List ByteArray) (w : World) (hs : IsStrs w a len cap ss) (hl : len ≤ 1000) :
    Calls Try.prog 85 #[.int .i64 most, .slice a len cap] w fun e w' => e = .returned (.bool (shortB most ss)) ∧ Below w.heap.size w w' := by
  have hs2 := Lib.hid (fun o => hs.below ((Below.refl w.heap.size w).alloc (Nat.le_refl _) o) (Nat.le_refl _))
  have hc := fun t => (cell_new_l w (.int .i64 most) t).1
  clear hs
  go_enter Try.func85, Try.ntmps85
  go_wp2_with (go_at_call 113; refine (containsfunc_any a len cap ss _ most _ (hs2.out _) hl (hc _)).mono ?_; rintro e w' ⟨rfl, rfl⟩)
  go_ret
  exact ⟨rfl, (Below.refl _ _).alloc (Nat.le_refl _) _⟩

end Go.Proofs.Ytgfhaldfjnepmaa
