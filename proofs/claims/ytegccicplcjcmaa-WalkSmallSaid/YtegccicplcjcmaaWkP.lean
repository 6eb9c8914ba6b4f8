/- Plain law: what the queries of a walk answer, told of a sorted list of pairs. -/
import Derived.Test.YtegccicplcjcmaaBk1
/- Plain law: what the reference model of an art computes is what the art computes. -/
namespace Go.Proofs.Ytegccicplcjcmaa
open Go

theorem take_pos {ps : PS} (hs : SortedP ps) (s : ByteArray) : ps.take (posP ps s) = ps.filter (fun p => klt p.1 s) := by
  rcases sorted_split hs s with ⟨_, e⟩ | ⟨v, _, e⟩
  · have e4 : posP ps s = (ps.filter (fun p => klt p.1 s)).length := rfl
    rw [e4]
    conv => lhs; rw [e]
    conv => lhs; arg 1; rw [← e]
    exact List.take_left
  · have e4 : posP ps s = (ps.filter (fun p => klt p.1 s)).length := rfl
    rw [e4]
    conv => lhs; rw [e]
    conv => lhs; arg 1; rw [← e]
    exact List.take_left

theorem del_none {ps : PS} {s : ByteArray} (h : getP ps s = none) : delP ps s = ps := by
  unfold delP
  rw [List.filter_eq_self]
  intro p hp
  simpa using getP_none h p hp

theorem del_some {ps : PS} (hs : SortedP ps) {s v : ByteArray} (h : getP ps s = some v) : delP ps s = ps.take (posP ps s) ++ ps.drop (posP ps s + 1) := by
  rw [delP_split hs, take_pos hs]
  congr 1
  have h1 := drop_pos hs s
  have h2 : ps.drop (posP ps s + 1) = (ps.drop (posP ps s)).drop 1 := by rw [List.drop_drop]
  rw [h2]
  rcases sorted_split hs s with ⟨e, _⟩ | ⟨v', _, e⟩
  · rw [h] at e; cases e
  · have e4 : posP ps s = (ps.filter (fun p => klt p.1 s)).length := rfl
    rw [e4]
    conv => rhs; rw [e]
    conv => rhs; arg 2; arg 1; rw [← e]
    rw [List.drop_left]
    rfl

theorem del_ref {ps : PS} (hs : SortedP ps) (s : ByteArray) : ps.take (posP ps s) ++ ps.drop (if (getP ps s).isSome then posP ps s + 1 else posP ps s) = delP ps s := by
  cases h : getP ps s with
  | none => rw [del_none h]; simp
  | some v => rw [del_some hs h]; simp

theorem pos_del (ps : PS) (s : ByteArray) : posP (delP ps s) s = posP ps s := by
  unfold posP delP
  rw [List.filter_filter]
  congr 1
  apply List.filter_congr
  intro p _
  by_cases h : p.1 = s
  · have : klt p.1 s = false := klt_false.2 (by rw [h]; exact lex_irrefl _)
    simp [this]
  · simp [h]

theorem put_ref {ps : PS} (hs : SortedP ps) (s v : ByteArray) : (delP ps s).take (posP (delP ps s) s) ++ [(s, v)] ++ (delP ps s).drop (posP (delP ps s) s) = putP ps s v := by
  have hd := sorted_del hs s
  have f1 : (delP ps s).filter (fun p => klt p.1 s) = ps.filter (fun p => klt p.1 s) := by
    unfold delP
    rw [List.filter_filter]
    apply List.filter_congr
    intro p _
    by_cases h : p.1 = s
    · have : klt p.1 s = false := klt_false.2 (by rw [h]; exact lex_irrefl _)
      simp [this]
    · simp [h]
  have f2 : (delP ps s).filter (fun p => !klt p.1 s) = ps.filter (fun p => klt s p.1) := by
    unfold delP
    rw [List.filter_filter]
    apply List.filter_congr
    intro p _
    by_cases h : p.1 = s
    · have : klt s s = false := klt_false.2 (lex_irrefl _)
      simp [h, this]
    · simp only [ne_eq, h, not_false_eq_true, decide_true, Bool.and_true]
      by_cases h1 : by_ p.1 < by_ s
      · rw [klt_iff.2 h1, klt_false.2 (lex_asymm h1)]; rfl
      · rw [klt_false.2 h1, klt_iff.2 (lex_tri h1 (fun e => h (by_inj e)))]; rfl
  rw [take_pos hd, drop_pos hd, f1, f2]
  simp [putP]

theorem get_at {ps : PS} (hs : SortedP ps) {s v : ByteArray} (h : getP ps s = some v) : ps[posP ps s]? = some (s, v) ∧ posP ps s < ps.length := by
  have h1 := (key_there hs s).1 ⟨v, h⟩
  unfold keysP at h1
  rw [List.getElem?_map] at h1
  obtain ⟨p, hp, h2⟩ := Option.map_eq_some_iff.1 h1
  obtain ⟨p1, p2⟩ := p
  simp only at h2
  subst h2
  have := getP_of_mem hs (List.mem_of_getElem? hp)
  rw [h] at this
  cases this
  exact ⟨hp, (List.getElem?_eq_some_iff.1 hp).1⟩

theorem not_at {ps : PS} {s : ByteArray} (h : getP ps s = none) {p : ByteArray × ByteArray} (hp : ps[posP ps s]? = some p) : p.1 ≠ s := getP_none h p (List.mem_of_getElem? hp)

theorem less_at {ps : PS} (hs : SortedP ps) (s : ByteArray) {t : Nat} {p : ByteArray × ByteArray} (hp : ps[t]? = some p) : (t < posP ps s → klt p.1 s = true) ∧ (posP ps s ≤ t → klt p.1 s = false) := by
  have := key_less hs s (t := t) (x := p.1) (by unfold keysP; rw [List.getElem?_map, hp]; rfl)
  exact ⟨fun h => klt_iff.2 (this.1 h), fun h => klt_false.2 (this.2 h)⟩

theorem put_refA {ps : PS} (hs : SortedP ps) (s v : ByteArray) : ps.take (posP ps s) ++ [(s, v)] ++ ps.drop (if (getP ps s).isSome then posP ps s + 1 else posP ps s) = putP ps s v := by
  rw [← put_ref hs s v, pos_del]
  cases h : getP ps s with
  | none => rw [del_none h]; simp
  | some u =>
    have hlt := (get_at hs h).2
    rw [del_some hs h]
    have hl : (ps.take (posP ps s)).length = posP ps s := by simp; omega
    simp [List.take_append, List.drop_append, hl]

end Go.Proofs.Ytegccicplcjcmaa

namespace Go.Proofs.Ytegccicplcjcmaa
open Go

def inB (s from_ to : ByteArray) : Bool := !klt s from_ && (decide (to = ⟨#[]⟩) || klt s to)
def begB (s p : ByteArray) : Bool := (by_ p).isPrefixOf (by_ s)

/-- The pairs of a range. -/
def btwP (ps : PS) (s t : ByteArray) : PS := ps.filter (fun p => inB p.1 s t)
/-- The first pairs from a bound. -/
def fromP (ps : PS) (s : ByteArray) (n : Int) : PS := (ps.drop (posP ps s)).take n.toNat
/-- The pairs whose codes begin so. -/
def begP (ps : PS) (p : ByteArray) : PS := ps.filter (fun q => begB q.1 p)

theorem klt_after (q p : ByteArray) : klt q (p ++ ⟨#[0]⟩) = !klt p q := by
  have e : by_ (p ++ ⟨#[0]⟩) = by_ p ++ [0] := by rw [by_append]; rfl
  cases h : klt p q with
  | true => exact klt_false.2 (by rw [e]; exact no_between (klt_iff.1 h))
  | false =>
    refine klt_iff.2 ?_
    rw [e]
    have h1 := klt_false.1 h
    by_cases h2 : by_ p = by_ q
    · rw [← h2]; exact lt_append_cons _ _ _
    · exact lex_trans (lex_tri h1 h2) (lt_append_cons _ _ _)

theorem pos_of {ps : PS} (hs : SortedP ps) {k : Nat} {s : ByteArray} (hk : k ≤ ps.length) (h1 : ∀ j p, ps[j]? = some p → j < k → klt p.1 s = true) (h2 : ∀ j p, ps[j]? = some p → k ≤ j → klt p.1 s = false) : posP ps s = k := by
  have hp := posP_le ps s
  rcases Nat.lt_trichotomy (posP ps s) k with h | h | h
  · obtain ⟨p, hp⟩ : ∃ p, ps[posP ps s]? = some p := ⟨_, List.getElem?_eq_getElem (by omega)⟩
    have := (less_at hs s hp).2 (Nat.le_refl _)
    rw [h1 _ _ hp h] at this; cases this
  · exact h
  · obtain ⟨p, hp⟩ : ∃ p, ps[k]? = some p := ⟨_, List.getElem?_eq_getElem (by omega)⟩
    have := (less_at hs s hp).1 h
    rw [h2 _ _ hp (Nat.le_refl _)] at this; cases this

theorem sorted_lt {ps : PS} (hs : SortedP ps) {j k : Nat} {p q : ByteArray × ByteArray} (hp : ps[j]? = some p) (hq : ps[k]? = some q) (h : j < k) : by_ p.1 < by_ q.1 := by
  obtain ⟨a1, rfl⟩ := List.getElem?_eq_some_iff.1 hp
  obtain ⟨a2, rfl⟩ := List.getElem?_eq_some_iff.1 hq
  exact List.pairwise_iff_getElem.1 hs j k a1 a2 h

theorem pos_after {ps : PS} (hs : SortedP ps) {k : Nat} {p : ByteArray × ByteArray} (hp : ps[k]? = some p) : posP ps (p.1 ++ ⟨#[0]⟩) = k + 1 := by
  have hk := (List.getElem?_eq_some_iff.1 hp).1
  refine pos_of hs (by omega) (fun j q hq hj => ?_) (fun j q hq hj => ?_)
  · rw [klt_after]
    rcases Nat.lt_or_ge j k with h | h
    · rw [klt_false.2 (lex_asymm (sorted_lt hs hq hp h))]; rfl
    · obtain rfl : j = k := by omega
      rw [hp] at hq; cases hq
      rw [klt_false.2 (lex_irrefl _)]; rfl
  · rw [klt_after, klt_iff.2 (sorted_lt hs hp hq (by omega))]; rfl

theorem klt_nil (s : ByteArray) : klt s ⟨#[]⟩ = false := klt_false.2 (lt_nil _)
theorem pos_nil (ps : PS) : posP ps ⟨#[]⟩ = 0 := by
  unfold posP
  rw [List.length_eq_zero_iff, List.filter_eq_nil_iff]
  intro p _
  rw [klt_nil]; simp

/-- Ahead of an upper bound. -/
def upB (t s : ByteArray) : Bool := decide (t = ⟨#[]⟩) || klt s t

theorem takeWhile_filter {α : Type} (f : α → Bool) : ∀ (l : List α), l.Pairwise (fun a b => f b = true → f a = true) → l.takeWhile f = l.filter f
  | [], _ => rfl
  | a :: l, h => by
    obtain ⟨h1, h2⟩ := List.pairwise_cons.1 h
    cases e : f a with
    | true => simp [e, takeWhile_filter f l h2]
    | false =>
      have : l.filter f = [] := List.filter_eq_nil_iff.2 (fun b hb hf => by rw [h1 b hb hf] at e; cases e)
      simp [e, this]

theorem up_pairwise {ps : PS} (hs : SortedP ps) (t : ByteArray) : ps.Pairwise (fun p q => upB t q.1 = true → upB t p.1 = true) := by
  refine hs.imp ?_
  intro p q h hq
  unfold upB at *
  by_cases e : t = ⟨#[]⟩
  · simp [e]
  · simp only [e, decide_false, Bool.false_or] at hq ⊢
    exact klt_iff.2 (lex_trans h (klt_iff.1 hq))

theorem btw_eq {ps : PS} (hs : SortedP ps) (s t : ByteArray) : btwP ps s t = (ps.drop (posP ps s)).takeWhile (fun p => upB t p.1) := by
  have hd : SortedP (ps.drop (posP ps s)) := hs.sublist (List.drop_sublist _ _)
  rw [takeWhile_filter _ _ (up_pairwise hd t), drop_pos hs, List.filter_filter]
  unfold btwP
  apply List.filter_congr
  intro p _
  unfold inB upB
  exact Bool.and_comm _ _

theorem from_ref {ps : PS} (hs : SortedP ps) (s : ByteArray) (n : Int) : fromP ps s n = (btwP ps s ⟨#[]⟩).take n.toNat := by
  rw [btw_eq hs]
  unfold fromP
  congr 1
  have : (fun p : ByteArray × ByteArray => upB ⟨#[]⟩ p.1) = fun _ => true := by funext p; simp [upB]
  rw [this]
  induction (ps.drop (posP ps s)) with
  | nil => rfl
  | cons a l ih => simp [← ih]

/-- The least text above all that begin with p; the empty one if there is none. -/
def beyB (p : ByteArray) : ByteArray := bs ((beyondL (by_ p)).getD [])

theorem beg_in (s p : ByteArray) : begB s p = inB s p (beyB p) := by
  have h := begins_iff (by_ p) (by_ s)
  rw [Bool.eq_iff_iff]
  unfold begB inB beyB
  rw [List.isPrefixOf_iff_prefix, h]
  simp only [Bool.and_eq_true, Bool.not_eq_true', klt_false, Bool.or_eq_true, decide_eq_true_eq, klt_iff]
  cases hb : beyondL (by_ p) with
  | none =>
    simp only [Option.getD_none]
    constructor
    · rintro ⟨a, _⟩; exact ⟨a, .inl rfl⟩
    · rintro ⟨a, _⟩; exact ⟨a, fun t ht => by cases ht⟩
  | some t =>
    simp only [Option.getD_some, by_bs]
    constructor
    · rintro ⟨a, b⟩; exact ⟨a, .inr (b t rfl)⟩
    · rintro ⟨a, b⟩
      refine ⟨a, fun t' ht => ?_⟩
      cases ht
      rcases b with b | b
      · have : t = [] := by have h3 := congrArg by_ b; rw [by_bs] at h3; exact h3
        have h2 := (beyondL_above hb).1
        rw [this] at h2
        exact absurd h2 (lt_nil _)
      · exact b

theorem beg_btw (ps : PS) (p : ByteArray) : begP ps p = btwP ps p (beyB p) := by
  unfold begP btwP
  apply List.filter_congr
  intro q _
  exact beg_in q.1 p

theorem from_get {ps : PS} {n : Nat} {p : ByteArray × ByteArray} (h : ps[n]? = some p) : (fromP ps ⟨#[]⟩ ((n : Int) + 1))[n]? = some p ∧ (fromP ps ⟨#[]⟩ ((n : Int) + 1)).length = n + 1 := by
  have hn := (List.getElem?_eq_some_iff.1 h).1
  unfold fromP
  rw [pos_nil, List.drop_zero, show ((n : Int) + 1).toNat = n + 1 by omega, List.getElem?_take_of_lt (by omega)]
  exact ⟨h, by rw [List.length_take]; omega⟩

end Go.Proofs.Ytegccicplcjcmaa

