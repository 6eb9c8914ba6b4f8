/- Walk of BoundNext. -/
import Derived.Test.YtkfjoonhgpgaiaaBound4
namespace Go.Proofs.Ytkfjoonhgpgaiaa
open Go Go.RowKit Go.Shelf Go.Proofs
attribute [local go_sem] Oper.semAt_some

theorem less_t {a b : ByteArray} (h : by_ a < by_ b) : Op.bytesLess a.toList b.toList = true := by
  rw [bytesLess_eq, toList_by, toList_by]; exact decide_eq_true h
theorem less_f {a b : ByteArray} (h : ¬ by_ a < by_ b) : Op.bytesLess a.toList b.toList = false := by
  rw [bytesLess_eq, toList_by, toList_by]; exact decide_eq_false h
theorem eq_t {a b : ByteArray} (h : by_ a = by_ b) : (a.toList == b.toList) = true := by
  rw [toList_by, toList_by, h]; simp
theorem eq_f {a b : ByteArray} (h : by_ a ≠ by_ b) : (a.toList == b.toList) = false := by
  rw [toList_by, toList_by]; simpa using h

/-- How 's begins with p' is asked: by the lengths, then by the cut. -/
theorem begins_cases (p s : ByteArray) : ((by_ p <+: by_ s) ∧ (p.size : Int) ≤ (s.size : Int) ∧ ((s.extract 0 p.size).toList == p.toList) = true) ∨
    (¬ (by_ p <+: by_ s) ∧ ((s.size : Int) < (p.size : Int) ∨ ((p.size : Int) ≤ (s.size : Int) ∧ ((s.extract 0 p.size).toList == p.toList) = false))) := by
  have h1 := size_by p
  have h2 := size_by s
  have e : by_ (s.extract 0 p.size) = (by_ s).take p.size := by rw [by_extract]; simp
  by_cases h : by_ p <+: by_ s
  · left
    have hl := h.length_le
    exact ⟨h, by omega, eq_t (by rw [e, ← h1]; exact (List.prefix_iff_eq_take.1 h).symm)⟩
  · right
    refine ⟨h, ?_⟩
    by_cases hl : s.size < p.size
    · left; omega
    · right; exact ⟨by omega, eq_f (by rw [e, ← h1]; intro h3; exact h (List.prefix_iff_eq_take.2 h3.symm))⟩

/-- The three ways in which s may lie to p, as the walk asks them. -/
theorem order_cases (p s : ByteArray) :
    ((by_ s < by_ p) ∧ Op.bytesLess s.toList p.toList = true ∧ (s.toList == p.toList) = false ∧ Op.bytesLess s.toList (p ++ ⟨#[0]⟩).toList = true) ∨
    ((by_ s = by_ p) ∧ Op.bytesLess s.toList p.toList = false ∧ (s.toList == p.toList) = true ∧ Op.bytesLess s.toList (p ++ ⟨#[0]⟩).toList = true) ∨
    ((by_ p < by_ s) ∧ Op.bytesLess s.toList p.toList = false ∧ (s.toList == p.toList) = false ∧ Op.bytesLess s.toList (p ++ ⟨#[0]⟩).toList = false) := by
  have e : by_ (p ++ ⟨#[0]⟩) = by_ p ++ [0] := by_append p ⟨#[0]⟩
  by_cases h : by_ s < by_ p
  · left; exact ⟨h, less_t h, eq_f (fun e => by rw [e] at h; exact lex_irrefl _ h), less_t (by rw [e]; exact lex_trans h (lt_append_cons _ _ _))⟩
  · right
    by_cases h2 : by_ s = by_ p
    · left; exact ⟨h2, less_f h, eq_t h2, less_t (by rw [e, h2]; exact lt_append_cons _ _ _)⟩
    · right
      have h3 := lex_tri h h2
      exact ⟨h3, less_f h, eq_f h2, less_f (by rw [e]; exact no_between h3)⟩

theorem after_facts (p : ByteArray) : Op.bytesLess (p ++ ⟨#[0]⟩).toList p.toList = false ∧ ((p ++ ⟨#[0]⟩).toList == p.toList) = false := by
  have e : by_ (p ++ ⟨#[0]⟩) = by_ p ++ [0] := by_append p ⟨#[0]⟩
  exact ⟨less_f (by rw [e]; exact not_lt_append _ _), eq_f (by rw [e]; simp)⟩

/-- What Beyond hands back, as the walk asks it. -/
theorem beyond_cases (p s : ByteArray) :
    (beyondV p = .tuple #[.string ⟨#[]⟩, .bool false] ∧ (∀ k (h : k < p.size), p[k] = 255) ∧ (by_ p <+: by_ s ↔ ¬ by_ s < by_ p)) ∨
    ∃ t : ByteArray, beyondV p = .tuple #[.string t, .bool true] ∧ Op.bytesLess t.toList p.toList = false ∧ (t.toList == p.toList) = false ∧ (t.size : Int) ≤ (p.size : Int) ∧ (t.toList == []) = false ∧
      (by_ p <+: by_ s ↔ ¬ by_ s < by_ p ∧ by_ s < by_ t) ∧ by_ p < by_ t := by
  cases h : beyondL (by_ p) with
  | none =>
    left
    refine ⟨by simp [beyondV, h, bs], ?_, by rw [begins_iff, h]; simp⟩
    intro k hk
    have := (beyondL_none_iff _).1 h
    exact this _ (List.mem_iff_getElem.2 ⟨k, by rw [size_by]; exact hk, rfl⟩)
  | some t =>
    right
    obtain ⟨h1, h2⟩ := beyondL_above h
    have et : by_ (bs t) = t := by_bs t
    refine ⟨bs t, by simp [beyondV, h], less_f (by rw [et]; exact lex_asymm h1), eq_f (by rw [et]; intro e; rw [e] at h1; exact lex_irrefl _ h1), ?_, ?_, by rw [begins_iff, h, et]; simp, by rw [et]; exact h1⟩
    · rw [size_bs, ← size_by p]; omega
    · rw [toList_bs]; cases t with
      | nil => exact absurd h1 (lt_nil _)
      | cons c t => rfl

set_option maxRecDepth 100000 in
set_option maxHeartbeats 4000000 in
theorem next_some (p s t : ByteArray) (w : World) (hlen : p.size + s.size ≤ 1000) (hV : beyondV p = .tuple #[.string t, .bool true])
    (t1 : Op.bytesLess t.toList p.toList = false) (t2 : (t.toList == p.toList) = false) (t3 : (t.size : Int) ≤ (p.size : Int))
    (hbeg : by_ p <+: by_ s ↔ ¬ by_ s < by_ p ∧ by_ s < by_ t) (hpt : by_ p < by_ t) :
    Calls Try.prog 3 #[.string p, .string s] w fun e w' => e = .returned (.bool true) ∧ Below w.heap.size w w' := by
  have hB := Below.refl w.heap.size w
  obtain ⟨a1, a2⟩ := after_facts p
  rcases order_cases p s with ⟨o, o1, o2, o3⟩ | ⟨o, o1, o2, o3⟩ | ⟨o, o1, o2, o3⟩
  · rcases begins_cases p s with ⟨b, b1, b2⟩ | ⟨b, b1 | ⟨b1, b2⟩⟩
    · exact absurd o (hbeg.1 b).1
    all_goals
      clear b o hbeg hpt
      go_enter Try.func3, Try.ntmps3
      go_wp2_with (first
        | (go_at_call 15; refine (awake05 _).mono ?_; rintro e w' ⟨rfl, hn⟩; replace hB := below_chain hB hn; clear hn)
        | (go_at_call 16; refine (after_any _ _ (by omega)).mono ?_; rintro e w' ⟨rfl, rfl⟩)
        | (go_at_call 17; refine (beyond_any _ _ (by omega)).mono ?_; rintro e w' ⟨rfl, hn⟩; replace hB := below_chain hB hn; clear hn))
      go_ret
      exact ⟨rfl, hB⟩
  · rcases begins_cases p s with ⟨b, b1, b2⟩ | ⟨b, b1 | ⟨b1, b2⟩⟩
    · have o4 : Op.bytesLess s.toList t.toList = true := less_t (by rw [o]; exact hpt)
      clear b o hbeg hpt
      go_enter Try.func3, Try.ntmps3
      go_wp2_with (first
        | (go_at_call 15; refine (awake05 _).mono ?_; rintro e w' ⟨rfl, hn⟩; replace hB := below_chain hB hn; clear hn)
        | (go_at_call 16; refine (after_any _ _ (by omega)).mono ?_; rintro e w' ⟨rfl, rfl⟩)
        | (go_at_call 17; refine (beyond_any _ _ (by omega)).mono ?_; rintro e w' ⟨rfl, hn⟩; replace hB := below_chain hB hn; clear hn))
      go_ret
      exact ⟨rfl, hB⟩
    all_goals exact absurd (by rw [o]; exact ⟨[], by simp⟩) b
  · by_cases o5 : by_ s < by_ t
    · rcases begins_cases p s with ⟨b, b1, b2⟩ | ⟨b, b1 | ⟨b1, b2⟩⟩
      · have o4 := less_t o5
        clear b o hbeg hpt o5
        go_enter Try.func3, Try.ntmps3
        go_wp2_with (first
          | (go_at_call 15; refine (awake05 _).mono ?_; rintro e w' ⟨rfl, hn⟩; replace hB := below_chain hB hn; clear hn)
          | (go_at_call 16; refine (after_any _ _ (by omega)).mono ?_; rintro e w' ⟨rfl, rfl⟩)
          | (go_at_call 17; refine (beyond_any _ _ (by omega)).mono ?_; rintro e w' ⟨rfl, hn⟩; replace hB := below_chain hB hn; clear hn))
        go_ret
        exact ⟨rfl, hB⟩
      all_goals exact absurd (hbeg.2 ⟨lex_asymm o, o5⟩) b
    · rcases begins_cases p s with ⟨b, b1, b2⟩ | ⟨b, b1 | ⟨b1, b2⟩⟩
      · exact absurd (hbeg.1 b).2 o5
      all_goals
        have o4 := less_f o5
        clear b o hbeg hpt o5
        go_enter Try.func3, Try.ntmps3
        go_wp2_with (first
          | (go_at_call 15; refine (awake05 _).mono ?_; rintro e w' ⟨rfl, hn⟩; replace hB := below_chain hB hn; clear hn)
          | (go_at_call 16; refine (after_any _ _ (by omega)).mono ?_; rintro e w' ⟨rfl, rfl⟩)
          | (go_at_call 17; refine (beyond_any _ _ (by omega)).mono ?_; rintro e w' ⟨rfl, hn⟩; replace hB := below_chain hB hn; clear hn))
        go_ret
        exact ⟨rfl, hB⟩

set_option maxRecDepth 100000 in
set_option maxHeartbeats 4000000 in
theorem next_none (p s : ByteArray) (w : World) (hlen : p.size + s.size ≤ 1000) (hV : beyondV p = .tuple #[.string ⟨#[]⟩, .bool false])
    (hall : ∀ k (h : k < p.size), p[k] = 255) (hbeg : by_ p <+: by_ s ↔ ¬ by_ s < by_ p) :
    Calls Try.prog 3 #[.string p, .string s] w fun e w' => e = .returned (.bool true) ∧ Below w.heap.size w w' := by
  have hB := Below.refl w.heap.size w
  obtain ⟨a1, a2⟩ := after_facts p
  have HA := Lib.hid hall
  clear hall
  rcases order_cases p s with ⟨o, o1, o2, o3⟩ | ⟨o, o1, o2, o3⟩ | ⟨o, o1, o2, o3⟩ <;> rcases begins_cases p s with ⟨b, b1, b2⟩ | ⟨b, b1 | ⟨b1, b2⟩⟩
  · exact absurd o (hbeg.1 b)
  all_goals try exact absurd (hbeg.2 (by rw [o]; exact lex_irrefl _)) b
  all_goals try exact absurd (hbeg.2 (lex_asymm o)) b
  all_goals
    clear b o hbeg
    go_enter Try.func3, Try.ntmps3
    go_wp2_with (first
      | (go_at_call 15; refine (awake05 _).mono ?_; rintro e w' ⟨rfl, hn⟩; replace hB := below_chain hB hn; clear hn)
      | (go_at_call 16; refine (after_any _ _ (by omega)).mono ?_; rintro e w' ⟨rfl, rfl⟩)
      | (go_at_call 17; refine (beyond_any _ _ (by omega)).mono ?_; rintro e w' ⟨rfl, hn⟩; replace hB := below_chain hB hn; clear hn))
    go_loop [9] (fun i => ∃ k : Nat, k ≤ p.size ∧ i = .int .i64 k) (fun i => p.size - (intOf i).toNat)
    case atStart => exact ⟨0, Nat.zero_le _, rfl⟩
    case round =>
      obtain ⟨k, hk, rfl⟩ := hrel
      by_cases hlt : k < p.size
      · have hv := HA.out k hlt
        go_wp2
        go_round
        case rel => exact ⟨k + 1, by omega, by go_num⟩
        case measure => simp [intOf]; omega
      · go_wp2
        go_ret
        exact ⟨rfl, hB⟩

theorem law_BoundNext (p : ByteArray) (hp : p.size ≤ 140737488351232) (s : ByteArray) (hs : s.size ≤ 140737488351232) (w : World) :
    Calls Try.prog 3 #[.string p, .string s] w fun e w' => e = .returned (.bool true) ∧ Below w.heap.size w w' := by
  by_cases hlen : p.size + s.size ≤ 1000
  · rcases beyond_cases p s with ⟨h1, h2, h3⟩ | ⟨t, h1, h2, h3, h4, _, h6, h7⟩
    · exact next_none p s w hlen h1 h2 h3
    · exact next_some p s t w hlen h1 h2 h3 h4 h6 h7
  · have hB := Below.refl w.heap.size w
    go_enter Try.func3, Try.ntmps3
    go_wp2_with (go_at_call 15; refine (awake05 _).mono ?_; rintro e w' ⟨rfl, hn⟩; replace hB := below_chain hB hn; clear hn)
    go_ret
    exact ⟨rfl, hB⟩
end Go.Proofs.Ytkfjoonhgpgaiaa
