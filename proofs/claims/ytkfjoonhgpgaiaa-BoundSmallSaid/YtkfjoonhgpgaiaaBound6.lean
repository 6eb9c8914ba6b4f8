/- Walk of BoundReaches. -/
import Derived.Test.YtkfjoonhgpgaiaaBound4
import Derived.Lib.QuietBelow
namespace Go.Proofs.Ytkfjoonhgpgaiaa
open Go Go.RowKit Go.Shelf Go.Proofs
attribute [local go_sem] Oper.semAt_some

theorem less6_t {a b : ByteArray} (h : by_ a < by_ b) : Op.bytesLess a.toList b.toList = true := by
  rw [bytesLess_eq, toList_by, toList_by]; exact decide_eq_true h
theorem less6_f {a b : ByteArray} (h : ¬ by_ a < by_ b) : Op.bytesLess a.toList b.toList = false := by
  rw [bytesLess_eq, toList_by, toList_by]; exact decide_eq_false h
theorem eq6_t {a b : ByteArray} (h : by_ a = by_ b) : (a.toList == b.toList) = true := by
  rw [toList_by, toList_by, h]; simp
theorem eq6_f {a b : ByteArray} (h : by_ a ≠ by_ b) : (a.toList == b.toList) = false := by
  rw [toList_by, toList_by]; simpa using h

/-- A text that precedes the head of another one precedes it, whatever is behind. -/
theorem lt_of_take : ∀ {p f : List UInt8} (s : List UInt8), p < f.take p.length → p ++ s < f
  | [], _, _, h => absurd h (by simp)
  | a :: p, [], _, h => absurd h (by simp)
  | a :: p, b :: f, s, h => by
    rw [List.length_cons, List.take_succ_cons, lt_cons] at h
    rw [List.cons_append, lt_cons]
    rcases h with h | ⟨e, h⟩
    · exact .inl h
    · exact .inr ⟨e, lt_of_take s h⟩

/-- A bound above a text, whose head is not, begins with it. -/
theorem begins_of_le {p f : List UInt8} (h1 : ¬ p < f.take p.length) (h2 : p < f) : f.take p.length = p := by
  apply Classical.byContradiction
  intro e
  have h3 : f.take p.length < p := lex_tri h1 (fun h => e h.symm)
  have h4 : f < p := by
    -- the head of f precedes p: so does f
    have : ∀ {x y : List UInt8} (n : Nat), x.take n < y → n = y.length → x < y := by
      intro x
      induction x with
      | nil => intro y n h _; simpa using h
      | cons a x ih =>
        intro y n h hn
        cases y with
        | nil => subst hn; exact absurd h (by simp)
        | cons b y =>
          subst hn
          rw [List.length_cons, List.take_succ_cons, lt_cons] at h
          rw [lt_cons]
          rcases h with h | ⟨e, h⟩
          · exact .inl h
          · exact .inr ⟨e, ih _ h rfl⟩
    exact this _ h3 rfl
  exact lex_asymm h2 h4

theorem leB_true {a b : List UInt8} : leB a b = true ↔ ¬ b < a := by
  unfold leB
  rw [bytesLess_eq]
  constructor
  · intro h
    simp at h
    rcases h with h | rfl
    · exact lex_asymm h
    · exact lex_irrefl _
  · intro h
    by_cases e : a = b
    · subst e; simp
    · simp [lex_tri h (fun h => e h.symm)]

theorem by_snoc (p s : ByteArray) : by_ (p ++ s) = by_ p ++ by_ s := by_append p s

set_option maxRecDepth 100000 in
set_option maxHeartbeats 4000000 in
theorem reaches_not (p f s : ByteArray) (w : World) (hlen : p.size + f.size + s.size ≤ 1000) (hR : reachesB (by_ p) (by_ f) = false) :
    Calls Try.prog 4 #[.string p, .string f, .string s] w fun e w' => e = .returned (.bool true) ∧ Below w.heap.size w w' := by
  have hB := Below.refl w.heap.size w
  have h1 : by_ p < (by_ f).take (by_ p).length := by
    apply Classical.byContradiction; intro h
    have := leB_true.2 h
    unfold reachesB at hR
    rw [this] at hR; cases hR
  have hx : leastS p f = ⟨#[]⟩ := by unfold leastS; rw [if_neg (by rw [hR]; simp)]
  have ht : Op.bytesLess (p ++ s).toList f.toList = true := less6_t (by rw [by_snoc]; exact lt_of_take _ h1)
  have hp : p.toList.isEmpty = false := by
    rw [toList_by]
    cases h : by_ p with
    | nil => rw [h] at h1; exact absurd h1 (by simp)
    | cons a l => rfl
  have hp2 : (p.toList == []) = false := by
    cases h : p.toList with
    | nil => rw [h] at hp; cases hp
    | cons a l => rfl
  clear h1
  go_enter Try.func4, Try.ntmps4
  go_wp2_with (first
    | (go_at_call 15; refine (awake05 _).mono ?_; rintro e w' ⟨rfl, hn⟩; replace hB := below_chain hB hn; clear hn)
    | (go_at_call 18; refine (least_any _ _ _ (by omega)).mono ?_; rintro e w' ⟨rfl, hn⟩; replace hB := below_chain hB hn; clear hn)
    | (go_at_call 19; refine (reaches_any _ _ _ (by omega)).mono ?_; rintro e w' ⟨rfl, hn⟩; replace hB := below_chain hB hn; clear hn))
  go_ret
  exact ⟨rfl, hB⟩

set_option maxRecDepth 100000 in
set_option maxHeartbeats 20000000 in
theorem reaches_yes (p f s : ByteArray) (w : World) (hlen : p.size + f.size + s.size ≤ 1000) (hR : reachesB (by_ p) (by_ f) = true) :
    Calls Try.prog 4 #[.string p, .string f, .string s] w fun e w' => e = .returned (.bool true) ∧ Below w.heap.size w w' := by
  have hB := Below.refl w.heap.size w
  have sp := size_by p
  have sf := size_by f
  have h1 : ¬ by_ p < (by_ f).take (by_ p).length := leB_true.1 hR
  have hle : leB ((by_ f).take (by_ p).length) (by_ p) = true := hR
  have hlx : leastS p f = Lib.maxS p f := by unfold leastS; rw [if_pos hR]
  -- what Least gives
  obtain ⟨x, hx, x1, x2, x3, x4⟩ : ∃ x, leastS p f = x ∧ Op.bytesLess x.toList f.toList = false ∧ (p.size : Int) ≤ x.size ∧ ((x.extract 0 p.size).toList == p.toList) = true ∧
      (Op.bytesLess (p ++ s).toList f.toList = true ∨ (Op.bytesLess (p ++ s).toList f.toList = false ∧ Op.bytesLess (p ++ s).toList x.toList = false)) := by
    refine ⟨_, rfl, ?_⟩
    rw [hlx, show Lib.maxS p f = if by_ p < by_ f then f else p from rfl]
    by_cases hpf : by_ p < by_ f
    · rw [if_pos hpf]
      have hb := begins_of_le h1 hpf
      refine ⟨less6_f (lex_irrefl _), ?_, eq6_t (by rw [by_extract, List.drop_zero, ← sp]; exact hb), ?_⟩
      · have := congrArg List.length hb; simp at this; omega
      · by_cases h : by_ (p ++ s) < by_ f
        · exact .inl (less6_t h)
        · exact .inr ⟨less6_f h, less6_f h⟩
    · rw [if_neg hpf]
      refine ⟨less6_f hpf, by omega, eq6_t (by rw [by_extract, List.drop_zero, ← sp, List.take_length]), ?_⟩
      by_cases h : by_ (p ++ s) < by_ f
      · exact .inl (less6_t h)
      · exact .inr ⟨less6_f h, less6_f (by rw [by_snoc]; exact not_lt_append _ _)⟩
  obtain ⟨n, hn, n1, n2, n3⟩ : ∃ n : Nat, ((f.size < p.size ∧ n = f.size) ∨ (p.size ≤ f.size ∧ n = p.size)) ∧ ((bs ((by_ f).take p.size)).toList == (f.extract 0 n).toList) = true ∧ n ≤ f.size ∧
      ((Op.bytesLess (f.extract 0 n).toList p.toList = true ∧ ((f.extract 0 n).toList == p.toList) = false) ∨ (Op.bytesLess (f.extract 0 n).toList p.toList = false ∧ ((f.extract 0 n).toList == p.toList) = true)) := by
    have key : ∀ n : Nat, (by_ f).take n = (by_ f).take p.size → ((bs ((by_ f).take p.size)).toList == (f.extract 0 n).toList) = true ∧
        ((Op.bytesLess (f.extract 0 n).toList p.toList = true ∧ ((f.extract 0 n).toList == p.toList) = false) ∨ (Op.bytesLess (f.extract 0 n).toList p.toList = false ∧ ((f.extract 0 n).toList == p.toList) = true)) := by
      intro n hn
      have e : by_ (f.extract 0 n) = (by_ f).take p.size := by rw [by_extract, List.drop_zero, hn]
      refine ⟨by rw [toList_bs, toList_by, e]; simp, ?_⟩
      have hle' : ¬ by_ p < by_ (f.extract 0 n) := by rw [e, ← sp]; exact leB_true.1 hle
      by_cases h : by_ (f.extract 0 n) = by_ p
      · exact .inr ⟨less6_f (by rw [h]; exact lex_irrefl _), eq6_t h⟩
      · exact .inl ⟨less6_t (lex_tri hle' (fun e => h e.symm)), eq6_f h⟩
    by_cases h : f.size < p.size
    · have := key f.size (by rw [List.take_of_length_le (by omega), List.take_of_length_le (by omega)])
      exact ⟨f.size, .inl ⟨h, rfl⟩, this.1, Nat.le_refl _, this.2⟩
    · have := key p.size rfl
      exact ⟨p.size, .inr ⟨by omega, rfl⟩, this.1, by omega, this.2⟩
  clear h1 hle hlx sp sf
  have ef : f.extract 0 f.size = f := by_inj (by rw [by_extract, List.drop_zero, ← size_by, List.take_length])
  rcases x4 with x4 | ⟨x4, x5⟩ <;> rcases hn with ⟨hn, rfl⟩ | ⟨hn, rfl⟩ <;> rcases n3 with ⟨n3, n4⟩ | ⟨n3, n4⟩
  all_goals try rw [ef] at n1 n3 n4
  all_goals clear ef
  all_goals
    go_enter Try.func4, Try.ntmps4
    go_wp2_with (first
      | (go_at_call 15; refine (awake05 _).mono ?_; rintro e w' ⟨rfl, hn⟩; replace hB := below_chain hB hn; clear hn)
      | (go_at_call 18; refine (least_any _ _ _ (by omega)).mono ?_; rintro e w' ⟨rfl, hn⟩; replace hB := below_chain hB hn; clear hn)
      | (go_at_call 20; refine (clip_any _ _ _ (by omega)).mono ?_; rintro e w' ⟨rfl, hn⟩; replace hB := below_chain hB hn; clear hn)
      | (go_at_call 19; refine (reaches_any _ _ _ (by omega)).mono ?_; rintro e w' ⟨rfl, hn⟩; replace hB := below_chain hB hn; clear hn))
    refine wp_region_quiet_below (by kernel_rfl) (by kernel_rfl) ?_
    repeat (go_big_quiet_step (exact Calls.regrown_of (clip_any _ _ _ (by omega))))
    refine wpQuiet_nil ?_
    intro _ hw'
    obtain ⟨⟨dq, osq⟩, hw''⟩ := hw'
    subst hw''
    go_wp2
    go_ret
    exact ⟨rfl, below_chain hB (below_regrown _ dq osq)⟩

theorem law_BoundReaches (p : ByteArray) (hp : p.size ≤ 140737488351232) (f : ByteArray) (hf : f.size ≤ 140737488351232) (s : ByteArray) (hs : s.size ≤ 140737488351232) (w : World) :
    Calls Try.prog 4 #[.string p, .string f, .string s] w fun e w' => e = .returned (.bool true) ∧ Below w.heap.size w w' := by
  by_cases hlen : p.size + f.size + s.size ≤ 1000
  · cases h : reachesB (by_ p) (by_ f) with
    | true => exact reaches_yes p f s w hlen h
    | false => exact reaches_not p f s w hlen h
  · have hB := Below.refl w.heap.size w
    go_enter Try.func4, Try.ntmps4
    go_wp2_with (go_at_call 15; refine (awake05 _).mono ?_; rintro e w' ⟨rfl, hn⟩; replace hB := below_chain hB hn; clear hn)
    go_ret
    exact ⟨rfl, hB⟩
end Go.Proofs.Ytkfjoonhgpgaiaa
