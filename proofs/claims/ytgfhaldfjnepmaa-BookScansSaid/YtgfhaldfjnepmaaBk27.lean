/- The law BookScans, plainly. -/
import Derived.Test.YtgfhaldfjnepmaaBk26
namespace Go.Proofs.Ytgfhaldfjnepmaa
open Go

theorem posP_after {ps : PS} (hs : SortedP ps) {i : Nat} {k : ByteArray} (hk : (keysP ps)[i]? = some k) : posP ps (k ++ ⟨#[0]⟩) = i + 1 := by
  have e0 : by_ (k ++ ⟨#[0]⟩) = by_ k ++ [0] := by rw [by_append]; rfl
  have hi : i < (keysP ps).length := (List.getElem?_eq_some_iff.1 hk).1
  rw [keysP_length] at hi
  have h1 : i < posP ps (k ++ ⟨#[0]⟩) := by
    rcases Nat.lt_or_ge i (posP ps (k ++ ⟨#[0]⟩)) with h | h
    · exact h
    · exact absurd (by rw [e0]; exact lt_append_cons _ _ _) ((key_less hs (k ++ ⟨#[0]⟩) hk).2 h)
  rcases Nat.lt_or_ge (i + 1) (posP ps (k ++ ⟨#[0]⟩)) with h | h
  · have hle := posP_le ps (k ++ ⟨#[0]⟩)
    obtain ⟨q, hq⟩ : ∃ q, (keysP ps)[i + 1]? = some q := ⟨_, List.getElem?_eq_getElem (by rw [keysP_length]; omega)⟩
    have h2 := (key_less hs (k ++ ⟨#[0]⟩) hq).1 h
    have h3 : by_ k < by_ q := by
      have := (List.pairwise_iff_getElem.1 (keys_sorted hs)) i (i + 1) (by rw [keysP_length]; omega) (by rw [keysP_length]; omega) (by omega)
      rw [List.getElem?_eq_getElem (by rw [keysP_length]; omega)] at hk hq
      simp only [Option.some.injEq] at hk hq
      rw [hk, hq] at this
      exact this
    rw [e0] at h2
    exact absurd h2 (no_between h3)
  · omega

theorem scans_join (D : PS) (n m : Nat) : D.take n ++ (D.drop (D.take n).length).take m = (D.take (n + m)).take (min (D.take (n + m)).length ((D.take n).length + m)) := by
  rcases Nat.le_total n D.length with h | h
  · have e1 : (D.take n).length = n := by simp; omega
    rw [e1, ← List.take_add, Nat.min_eq_left (by simp; omega), List.take_of_length_le (Nat.le_refl _)]
  · have e1 : D.take n = D := List.take_of_length_le h
    have e2 : D.take (n + m) = D := List.take_of_length_le (by omega)
    rw [e1, e2, List.drop_length, List.take_nil, List.append_nil, Nat.min_eq_left (by omega), List.take_of_length_le (Nat.le_refl _)]

def wantP (ps : PS) (s : ByteArray) (N k : Nat) : PS := ((ps.take k).filter (fun p => !klt p.1 s)).take N

theorem wantP_succ {ps : PS} (s : ByteArray) (N : Nat) {k : Nat} {p : ByteArray × ByteArray} (hp : ps[k]? = some p) :
    wantP ps s N (k + 1) = if klt p.1 s = false ∧ (wantP ps s N k).length < N then wantP ps s N k ++ [p] else wantP ps s N k := by
  unfold wantP
  rw [List.take_add_one, hp, Option.toList_some, List.filter_append]
  generalize (ps.take k).filter (fun p => !klt p.1 s) = F
  cases h : klt p.1 s with
  | true => simp [List.filter_cons, h]
  | false =>
    simp only [List.filter_cons, h, Bool.not_false, if_true, List.filter_nil, true_and, List.length_take]
    by_cases hl : F.length < N
    · rw [if_pos (by omega), List.take_of_length_le (by simp; omega), List.take_of_length_le (by omega)]
    · rw [if_neg (by omega), List.take_append_of_le_length (by omega)]

theorem wantP_end {ps : PS} (hs : SortedP ps) (s : ByteArray) (N : Nat) : wantP ps s N ps.length = (ps.drop (posP ps s)).take N := by
  unfold wantP
  rw [List.take_of_length_le (Nat.le_refl _), drop_pos hs]

theorem wantP_len (ps : PS) (s : ByteArray) (N k : Nat) : (wantP ps s N k).length ≤ N := by unfold wantP; simp; omega

theorem scan_ok {s : ByteArray} {n : Int} (hs : s.size ≤ 16) (h0 : 0 ≤ n) (h1 : n ≤ 4096) : scanE s n = 0 := by
  unfold scanE
  rw [if_pos (mayE_zero.2 ⟨hs, by simp⟩), if_neg (by omega)]

theorem scanL_ok {ps : PS} {s : ByteArray} {N : Nat} (hs : s.size ≤ 16) (h1 : N ≤ 4096) : scanL ps s (N : Int) = (ps.drop (posP ps s)).take N := by
  unfold scanL
  rw [if_pos (scan_ok hs (by omega) (by omega))]
  simp

end Go.Proofs.Ytgfhaldfjnepmaa
