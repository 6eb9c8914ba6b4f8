/- Plain law: a sorted list of keys with values: storing, dropping, looking up; its keys, its length and its total. -/
import Derived.Test.YtgfhaldfjnepmaaLex
import Derived.Test.YtgfhaldfjnepmaaBase
namespace Go.Proofs.Ytgfhaldfjnepmaa
open Go

abbrev PS := List (ByteArray × ByteArray)

def klt (s t : ByteArray) : Bool := decide (by_ s < by_ t)
theorem klt_iff {s t : ByteArray} : klt s t = true ↔ by_ s < by_ t := by simp [klt]
theorem klt_false {s t : ByteArray} : klt s t = false ↔ ¬ by_ s < by_ t := by simp [klt]

def SortedP (ps : PS) : Prop := ps.Pairwise (fun p q => by_ p.1 < by_ q.1)
def posP (ps : PS) (s : ByteArray) : Nat := (ps.filter (fun p => klt p.1 s)).length
def getP (ps : PS) (s : ByteArray) : Option ByteArray := (ps.find? (fun p => decide (p.1 = s))).map (·.2)
def putP (ps : PS) (s v : ByteArray) : PS := ps.filter (fun p => klt p.1 s) ++ (s, v) :: ps.filter (fun p => klt s p.1)
def delP (ps : PS) (s : ByteArray) : PS := ps.filter (fun p => decide (p.1 ≠ s))
def totP : PS → Nat
  | [] => 0
  | p :: r => p.1.size + p.2.size + totP r
def keysP (ps : PS) : List ByteArray := ps.map (·.1)

theorem totP_append (a b : PS) : totP (a ++ b) = totP a + totP b := by
  induction a with
  | nil => simp [totP]
  | cons p r ih => simp [totP, ih]; omega

theorem sorted_sublist {a b : PS} (h : a.Sublist b) (hs : SortedP b) : SortedP a := hs.sublist h

theorem sorted_put {ps : PS} (hs : SortedP ps) (s v : ByteArray) : SortedP (putP ps s v) := by
  unfold putP SortedP
  rw [List.pairwise_append]
  refine ⟨hs.sublist List.filter_sublist, ?_, ?_⟩
  · rw [List.pairwise_cons]
    refine ⟨fun q hq => ?_, hs.sublist List.filter_sublist⟩
    simp only [List.mem_filter, klt_iff] at hq
    exact hq.2
  · intro p hp q hq
    simp only [List.mem_filter, klt_iff] at hp
    rcases List.mem_cons.1 hq with rfl | hq
    · exact hp.2
    · simp only [List.mem_filter, klt_iff] at hq
      exact lex_trans hp.2 hq.2

theorem sorted_del {ps : PS} (hs : SortedP ps) (s : ByteArray) : SortedP (delP ps s) := hs.sublist List.filter_sublist

/-- Where a key lies in a sorted list. -/
theorem sorted_split {ps : PS} (hs : SortedP ps) (s : ByteArray) :
    (getP ps s = none ∧ ps = ps.filter (fun p => klt p.1 s) ++ ps.filter (fun p => klt s p.1)) ∨
    (∃ v, getP ps s = some v ∧ ps = ps.filter (fun p => klt p.1 s) ++ (s, v) :: ps.filter (fun p => klt s p.1)) := by
  induction ps with
  | nil => exact .inl ⟨rfl, rfl⟩
  | cons p r ih =>
    have hp : ∀ q ∈ r, by_ p.1 < by_ q.1 := (List.pairwise_cons.1 hs).1
    have hr := ih (List.pairwise_cons.1 hs).2
    by_cases h1 : by_ p.1 < by_ s
    · have e1 : klt p.1 s = true := klt_iff.2 h1
      have e2 : klt s p.1 = false := klt_false.2 (lex_asymm h1)
      have e3 : ¬ p.1 = s := fun e => by rw [e] at h1; exact lex_irrefl _ h1
      have e4 : getP (p :: r) s = getP r s := by simp [getP, List.find?, e3]
      rw [e4]
      simp only [List.filter_cons, e1, e2, if_true, List.cons_append]
      rcases hr with ⟨a, b⟩ | ⟨v, a, b⟩
      · exact .inl ⟨a, by simpa using b⟩
      · exact .inr ⟨v, a, by simpa using b⟩
    · by_cases h2 : p.1 = s
      · subst h2
        right
        refine ⟨p.2, by simp [getP], ?_⟩
        have f1 : r.filter (fun q => klt q.1 p.1) = [] := by
          rw [List.filter_eq_nil_iff]; intro q hq; simp only [klt_iff]; exact lex_asymm (hp q hq)
        have f2 : r.filter (fun q => klt p.1 q.1) = r := by
          rw [List.filter_eq_self]; intro q hq; exact klt_iff.2 (hp q hq)
        have f3 : klt p.1 p.1 = false := klt_false.2 (lex_irrefl _)
        simp [List.filter_cons, f3, f1, f2]
      · have h3 : by_ s < by_ p.1 := lex_tri h1 (fun e => h2 (by_inj e))
        left
        have e1 : klt p.1 s = false := klt_false.2 h1
        have e2 : klt s p.1 = true := klt_iff.2 h3
        have f1 : r.filter (fun q => klt q.1 s) = [] := by
          rw [List.filter_eq_nil_iff]; intro q hq; simp only [klt_iff]; exact lex_asymm (lex_trans h3 (hp q hq))
        have f2 : r.filter (fun q => klt s q.1) = r := by
          rw [List.filter_eq_self]; intro q hq; exact klt_iff.2 (lex_trans h3 (hp q hq))
        refine ⟨?_, by simp [List.filter_cons, e1, e2, f1, f2]⟩
        simp only [getP, List.find?, h2, decide_false, Option.map_eq_none_iff, List.find?_eq_none]
        intro q hq
        simp only [decide_eq_true_eq]
        intro e
        have := hp q hq
        rw [e] at this
        exact h1 this

theorem getP_mem {ps : PS} {s v : ByteArray} (h : getP ps s = some v) : (s, v) ∈ ps := by
  unfold getP at h
  obtain ⟨p, hp, rfl⟩ := Option.map_eq_some_iff.1 h
  have h1 := List.find?_some hp
  have h2 := List.mem_of_find?_eq_some hp
  simp only [decide_eq_true_eq] at h1
  subst h1
  exact h2

theorem getP_none {ps : PS} {s : ByteArray} (h : getP ps s = none) : ∀ p ∈ ps, p.1 ≠ s := by
  intro p hp e
  simp only [getP, Option.map_eq_none_iff, List.find?_eq_none] at h
  exact h p hp (by simp [e])

theorem getP_of_mem {ps : PS} (hs : SortedP ps) {s v : ByteArray} (h : (s, v) ∈ ps) : getP ps s = some v := by
  induction ps with
  | nil => cases h
  | cons p r ih =>
    have hp : ∀ q ∈ r, by_ p.1 < by_ q.1 := (List.pairwise_cons.1 hs).1
    rcases List.mem_cons.1 h with rfl | h
    · simp [getP]
    · have := hp _ h
      have e : ¬ p.1 = s := fun e => by rw [e] at this; exact lex_irrefl _ this
      have := ih (List.pairwise_cons.1 hs).2 h
      unfold getP at this ⊢
      simpa [List.find?, e] using this

theorem mem_putP {ps : PS} {s v : ByteArray} {p : ByteArray × ByteArray} : p ∈ putP ps s v ↔ (p = (s, v) ∨ (p ∈ ps ∧ p.1 ≠ s)) := by
  simp only [putP, List.mem_append, List.mem_filter, List.mem_cons, klt_iff]
  constructor
  · rintro (⟨a, b⟩ | rfl | ⟨a, b⟩)
    · exact .inr ⟨a, fun e => by rw [e] at b; exact lex_irrefl _ b⟩
    · exact .inl rfl
    · exact .inr ⟨a, fun e => by rw [e] at b; exact lex_irrefl _ b⟩
  · rintro (rfl | ⟨a, b⟩)
    · exact .inr (.inl rfl)
    · by_cases h : by_ p.1 < by_ s
      · exact .inl ⟨a, h⟩
      · exact .inr (.inr ⟨a, lex_tri h (fun e => b (by_inj e))⟩)

theorem mem_delP {ps : PS} {s : ByteArray} {p : ByteArray × ByteArray} : p ∈ delP ps s ↔ (p ∈ ps ∧ p.1 ≠ s) := by
  simp [delP, List.mem_filter]

theorem opt_ext_mem {ps qs : PS} (hs : SortedP ps) (hq : SortedP qs) {t : ByteArray} (h : ∀ v, (t, v) ∈ ps ↔ (t, v) ∈ qs) : getP ps t = getP qs t := by
  cases e : getP ps t with
  | some v => exact (getP_of_mem hq ((h v).1 (getP_mem e))).symm
  | none =>
    cases e2 : getP qs t with
    | none => rfl
    | some v => exact absurd rfl (getP_none e _ ((h v).2 (getP_mem e2)))

theorem getP_put_same {ps : PS} (hs : SortedP ps) (s v : ByteArray) : getP (putP ps s v) s = some v := getP_of_mem (sorted_put hs s v) (mem_putP.2 (.inl rfl))
theorem getP_put_other {ps : PS} (hs : SortedP ps) {s t : ByteArray} (v : ByteArray) (h : t ≠ s) : getP (putP ps s v) t = getP ps t :=
  opt_ext_mem (sorted_put hs s v) hs (fun u => by rw [mem_putP]; constructor
                                                  · rintro (e | ⟨a, _⟩)
                                                    · exact absurd (congrArg Prod.fst e) h
                                                    · exact a
                                                  · intro a; exact .inr ⟨a, h⟩)
theorem getP_del_same (ps : PS) (s : ByteArray) : getP (delP ps s) s = none := by
  cases e : getP (delP ps s) s with
  | none => rfl
  | some v => exact absurd rfl (mem_delP.1 (getP_mem e)).2
theorem getP_del_other {ps : PS} (hs : SortedP ps) {s t : ByteArray} (h : t ≠ s) : getP (delP ps s) t = getP ps t :=
  opt_ext_mem (sorted_del hs s) hs (fun u => by rw [mem_delP]; exact ⟨fun a => a.1, fun a => ⟨a, h⟩⟩)

theorem delP_split {ps : PS} (hs : SortedP ps) (s : ByteArray) : delP ps s = ps.filter (fun p => klt p.1 s) ++ ps.filter (fun p => klt s p.1) := by
  have hm : ∀ (a b : PS), (a ++ b).filter (fun p => decide (p.1 ≠ s)) = a.filter (fun p => decide (p.1 ≠ s)) ++ b.filter (fun p => decide (p.1 ≠ s)) := fun a b => List.filter_append ..
  have f1 : (ps.filter (fun p => klt p.1 s)).filter (fun p => decide (p.1 ≠ s)) = ps.filter (fun p => klt p.1 s) := by
    rw [List.filter_eq_self]; intro q hq
    simp only [List.mem_filter, klt_iff] at hq
    simp only [decide_eq_true_eq]
    intro e; rw [e] at hq; exact lex_irrefl _ hq.2
  have f2 : (ps.filter (fun p => klt s p.1)).filter (fun p => decide (p.1 ≠ s)) = ps.filter (fun p => klt s p.1) := by
    rw [List.filter_eq_self]; intro q hq
    simp only [List.mem_filter, klt_iff] at hq
    simp only [decide_eq_true_eq]
    intro e; rw [e] at hq; exact lex_irrefl _ hq.2
  rcases sorted_split hs s with ⟨_, e⟩ | ⟨v, _, e⟩
  · unfold delP
    conv => lhs; rw [e]
    rw [hm, f1, f2]
  · unfold delP
    conv => lhs; rw [e]
    rw [hm, List.filter_cons, f1, f2]
    simp

/-! ### the keys -/
theorem keys_sorted {ps : PS} (hs : SortedP ps) : (keysP ps).Pairwise (fun a b => by_ a < by_ b) := List.pairwise_map.2 hs

theorem posP_le (ps : PS) (s : ByteArray) : posP ps s ≤ ps.length := List.length_filter_le ..

theorem keys_put_absent {ps : PS} (hs : SortedP ps) {s : ByteArray} (v : ByteArray) (h : getP ps s = none) :
    keysP (putP ps s v) = (keysP ps).take (posP ps s) ++ s :: (keysP ps).drop (posP ps s) := by
  rcases sorted_split hs s with ⟨_, e⟩ | ⟨_, e, _⟩
  · have e1 : keysP ps = (ps.filter (fun p => klt p.1 s)).map (·.1) ++ (ps.filter (fun p => klt s p.1)).map (·.1) := by
      unfold keysP; conv => lhs; rw [e]
      rw [List.map_append]
    have e2 : posP ps s = ((ps.filter (fun p => klt p.1 s)).map (·.1)).length := by simp [posP]
    rw [e1, e2, List.take_left, List.drop_left]
    simp [keysP, putP]
  · rw [h] at e; cases e

theorem keys_put_present {ps : PS} (hs : SortedP ps) {s : ByteArray} (v : ByteArray) {u : ByteArray} (h : getP ps s = some u) : keysP (putP ps s v) = keysP ps := by
  rcases sorted_split hs s with ⟨e, _⟩ | ⟨_, _, e⟩
  · rw [h] at e; cases e
  · unfold keysP; conv => rhs; rw [e]
    simp [putP]

theorem keys_del {ps : PS} (hs : SortedP ps) {s u : ByteArray} (h : getP ps s = some u) : keysP (delP ps s) = (keysP ps).take (posP ps s) ++ (keysP ps).drop (posP ps s + 1) := by
  rcases sorted_split hs s with ⟨e, _⟩ | ⟨v, _, e⟩
  · rw [h] at e; cases e
  · have e1 : keysP ps = (ps.filter (fun p => klt p.1 s)).map (·.1) ++ s :: (ps.filter (fun p => klt s p.1)).map (·.1) := by
      unfold keysP; conv => lhs; rw [e]
      simp
    have e2 : posP ps s = ((ps.filter (fun p => klt p.1 s)).map (·.1)).length := by simp [posP]
    rw [delP_split hs, e1, e2, List.take_left]
    have e3 : ∀ (a b : List ByteArray), (a ++ s :: b).drop (a.length + 1) = b := fun a b => by
      rw [show a ++ s :: b = (a ++ [s]) ++ b from by simp, show a.length + 1 = (a ++ [s]).length from by simp, List.drop_left]
    rw [e3]
    simp [keysP]

theorem drop_pos {ps : PS} (hs : SortedP ps) (s : ByteArray) : ps.drop (posP ps s) = ps.filter (fun p => !klt p.1 s) := by
  have hm : ∀ (a b : PS), (a ++ b).filter (fun p => !klt p.1 s) = a.filter (fun p => !klt p.1 s) ++ b.filter (fun p => !klt p.1 s) := fun a b => List.filter_append ..
  have f1 : (ps.filter (fun p => klt p.1 s)).filter (fun p => !klt p.1 s) = [] := by
    rw [List.filter_eq_nil_iff]; intro q hq
    simp only [List.mem_filter] at hq
    simp [hq.2]
  have f2 : (ps.filter (fun p => klt s p.1)).filter (fun p => !klt p.1 s) = ps.filter (fun p => klt s p.1) := by
    rw [List.filter_eq_self]; intro q hq
    simp only [List.mem_filter, klt_iff] at hq
    simp [klt_false.2 (lex_asymm hq.2)]
  have f3 : klt s s = false := klt_false.2 (lex_irrefl _)
  rcases sorted_split hs s with ⟨_, e⟩ | ⟨v, _, e⟩
  · have e3 : ps.filter (fun p => !klt p.1 s) = ps.filter (fun p => klt s p.1) := by
      conv => lhs; rw [e]
      rw [hm, f1, f2]; rfl
    rw [e3]
    conv => lhs; rw [e]
    unfold posP
    rw [List.filter_append]
    have f4 : (ps.filter (fun p => klt s p.1)).filter (fun p => klt p.1 s) = [] := by
      rw [List.filter_eq_nil_iff]; intro q hq
      simp only [List.mem_filter, klt_iff] at hq
      simp [klt_false.2 (lex_asymm hq.2)]
    have f5 : (ps.filter (fun p => klt p.1 s)).filter (fun p => klt p.1 s) = ps.filter (fun p => klt p.1 s) := by
      rw [List.filter_eq_self]; intro q hq
      simp only [List.mem_filter] at hq
      exact hq.2
    rw [f4, f5, List.append_nil, List.drop_left]
  · have e3 : ps.filter (fun p => !klt p.1 s) = (s, v) :: ps.filter (fun p => klt s p.1) := by
      conv => lhs; rw [e]
      rw [hm, f1, List.filter_cons, f2]; simp [f3]
    rw [e3]
    have e4 : posP ps s = (ps.filter (fun p => klt p.1 s)).length := rfl
    rw [e4]
    conv => lhs; rw [e]
    conv => lhs; arg 1; rw [← e]
    exact List.drop_left

/-- The keys ahead of the place are less, the others are not. -/
theorem key_less {ps : PS} (hs : SortedP ps) (s : ByteArray) {t : Nat} {x : ByteArray} (hx : (keysP ps)[t]? = some x) : (t < posP ps s → by_ x < by_ s) ∧ (posP ps s ≤ t → ¬ by_ x < by_ s) := by
  obtain ⟨p, hp, rfl⟩ : ∃ p, ps[t]? = some p ∧ p.1 = x := by
    unfold keysP at hx
    rw [List.getElem?_map] at hx
    exact Option.map_eq_some_iff.1 hx
  constructor
  · intro ht
    have hsplit : ∃ r, ps = ps.filter (fun p => klt p.1 s) ++ r := by
      rcases sorted_split hs s with ⟨_, e⟩ | ⟨v, _, e⟩
      · exact ⟨_, e⟩
      · exact ⟨_, e⟩
    obtain ⟨r, e⟩ := hsplit
    rw [e, List.getElem?_append_left (by exact ht)] at hp
    have := List.mem_of_getElem? hp
    simp only [List.mem_filter, klt_iff] at this
    exact this.2
  · intro ht
    have h1 : (ps.drop (posP ps s))[t - posP ps s]? = some p := by
      rw [List.getElem?_drop, show posP ps s + (t - posP ps s) = t from by omega]; exact hp
    rw [drop_pos hs] at h1
    have := List.mem_of_getElem? h1
    simp only [List.mem_filter, Bool.not_eq_true'] at this
    exact klt_false.1 this.2

/-- The key at the place, if it is one. -/
theorem key_there {ps : PS} (hs : SortedP ps) (s : ByteArray) : (∃ v, getP ps s = some v) ↔ (keysP ps)[posP ps s]? = some s := by
  rcases sorted_split hs s with ⟨h, e⟩ | ⟨v, h, e⟩
  · constructor
    · rintro ⟨v, hv⟩; rw [h] at hv; cases hv
    · intro hk
      unfold keysP at hk
      rw [List.getElem?_map] at hk
      obtain ⟨p, hp, h2⟩ := Option.map_eq_some_iff.1 hk
      exact absurd h2 (getP_none h p (List.mem_of_getElem? hp))
  · constructor
    · intro _
      have e1 : keysP ps = (ps.filter (fun p => klt p.1 s)).map (·.1) ++ s :: (ps.filter (fun p => klt s p.1)).map (·.1) := by
        unfold keysP; conv => lhs; rw [e]
        simp
      have e2 : posP ps s = ((ps.filter (fun p => klt p.1 s)).map (·.1)).length := by simp [posP]
      rw [e1, e2]
      simp
    · intro _; exact ⟨v, h⟩

/-! ### how long, how many bytes -/
theorem len_put_absent {ps : PS} (hs : SortedP ps) {s : ByteArray} (v : ByteArray) (h : getP ps s = none) : (putP ps s v).length = ps.length + 1 ∧ totP (putP ps s v) = totP ps + (s.size + v.size) := by
  rcases sorted_split hs s with ⟨_, e⟩ | ⟨_, e, _⟩
  · constructor
    · conv => rhs; rw [e]
      simp [putP]; omega
    · conv => rhs; rw [e]
      simp [putP, totP_append, totP]; omega
  · rw [h] at e; cases e

theorem len_put_present {ps : PS} (hs : SortedP ps) {s : ByteArray} (v : ByteArray) {u : ByteArray} (h : getP ps s = some u) : (putP ps s v).length = ps.length ∧ totP (putP ps s v) + (s.size + u.size) = totP ps + (s.size + v.size) := by
  rcases sorted_split hs s with ⟨e, _⟩ | ⟨u', hu, e⟩
  · rw [h] at e; cases e
  · rw [h] at hu; cases hu
    constructor
    · conv => rhs; rw [e]
      simp [putP]
    · conv => rhs; rw [e]
      simp [putP, totP_append, totP]; omega

theorem len_del {ps : PS} (hs : SortedP ps) {s u : ByteArray} (h : getP ps s = some u) : (delP ps s).length + 1 = ps.length ∧ totP (delP ps s) + (s.size + u.size) = totP ps := by
  rcases sorted_split hs s with ⟨e, _⟩ | ⟨u', hu, e⟩
  · rw [h] at e; cases e
  · rw [h] at hu; cases hu
    rw [delP_split hs]
    constructor
    · conv => rhs; rw [e]
      simp; omega
    · conv => rhs; rw [e]
      simp [totP_append, totP]; omega

theorem keysP_length (ps : PS) : (keysP ps).length = ps.length := by simp [keysP]

theorem totP_le {ps : PS} (h : ∀ p ∈ ps, p.1.size ≤ 16 ∧ p.2.size ≤ 32) : totP ps ≤ 48 * ps.length := by
  induction ps with
  | nil => simp [totP]
  | cons p r ih =>
    have h1 := h p (List.mem_cons_self ..)
    have h2 := ih (fun q hq => h q (List.mem_cons_of_mem _ hq))
    simp [totP]; omega

theorem getP_tot {ps : PS} {s u : ByteArray} (hs : SortedP ps) (h : getP ps s = some u) : s.size + u.size ≤ totP ps := by
  have := (len_del hs h).2; omega

end Go.Proofs.Ytgfhaldfjnepmaa
