/- Plain law: what the reference model of a book computes is what the book computes. -/
import Derived.Test.YtgfhaldfjnepmaaBk19
namespace Go.Proofs.Ytgfhaldfjnepmaa
open Go

theorem take_pos {ps : PS} (hs : SortedP ps) (s : ByteArray) : ps.take (posP ps s) = ps.filter (fun p => klt p.1 s) := by
  rcases sorted_split hs s with ⟨_, e⟩ | ⟨v, _, e⟩
  · have e4 : posP ps s = (ps.filter (fun p => klt p.1 s)).length := rfl
    rw [e4]
    conv => lhs; rw [e]
    conv => lhs; arg 1; rw [← e]
    exact List.take_left
  · have e4 : posP ps s = (ps.filter (fun p => klt p.1 s)).length := rfl
    rw [e4]
    conv => lhs; rw [e]
    conv => lhs; arg 1; rw [← e]
    exact List.take_left

theorem del_none {ps : PS} {s : ByteArray} (h : getP ps s = none) : delP ps s = ps := by
  unfold delP
  rw [List.filter_eq_self]
  intro p hp
  simpa using getP_none h p hp

theorem del_some {ps : PS} (hs : SortedP ps) {s v : ByteArray} (h : getP ps s = some v) : delP ps s = ps.take (posP ps s) ++ ps.drop (posP ps s + 1) := by
  rw [delP_split hs, take_pos hs]
  congr 1
  have h1 := drop_pos hs s
  have h2 : ps.drop (posP ps s + 1) = (ps.drop (posP ps s)).drop 1 := by rw [List.drop_drop]
  rw [h2]
  rcases sorted_split hs s with ⟨e, _⟩ | ⟨v', _, e⟩
  · rw [h] at e; cases e
  · have e4 : posP ps s = (ps.filter (fun p => klt p.1 s)).length := rfl
    rw [e4]
    conv => rhs; rw [e]
    conv => rhs; arg 2; arg 1; rw [← e]
    rw [List.drop_left]
    rfl

theorem del_ref {ps : PS} (hs : SortedP ps) (s : ByteArray) : ps.take (posP ps s) ++ ps.drop (if (getP ps s).isSome then posP ps s + 1 else posP ps s) = delP ps s := by
  cases h : getP ps s with
  | none => rw [del_none h]; simp
  | some v => rw [del_some hs h]; simp

theorem pos_del (ps : PS) (s : ByteArray) : posP (delP ps s) s = posP ps s := by
  unfold posP delP
  rw [List.filter_filter]
  congr 1
  apply List.filter_congr
  intro p _
  by_cases h : p.1 = s
  · have : klt p.1 s = false := klt_false.2 (by rw [h]; exact lex_irrefl _)
    simp [this]
  · simp [h]

theorem put_ref {ps : PS} (hs : SortedP ps) (s v : ByteArray) : (delP ps s).take (posP (delP ps s) s) ++ [(s, v)] ++ (delP ps s).drop (posP (delP ps s) s) = putP ps s v := by
  have hd := sorted_del hs s
  have f1 : (delP ps s).filter (fun p => klt p.1 s) = ps.filter (fun p => klt p.1 s) := by
    unfold delP
    rw [List.filter_filter]
    apply List.filter_congr
    intro p _
    by_cases h : p.1 = s
    · have : klt p.1 s = false := klt_false.2 (by rw [h]; exact lex_irrefl _)
      simp [this]
    · simp [h]
  have f2 : (delP ps s).filter (fun p => !klt p.1 s) = ps.filter (fun p => klt s p.1) := by
    unfold delP
    rw [List.filter_filter]
    apply List.filter_congr
    intro p _
    by_cases h : p.1 = s
    · have : klt s s = false := klt_false.2 (lex_irrefl _)
      simp [h, this]
    · simp only [ne_eq, h, not_false_eq_true, decide_true, Bool.and_true]
      by_cases h1 : by_ p.1 < by_ s
      · rw [klt_iff.2 h1, klt_false.2 (lex_asymm h1)]; rfl
      · rw [klt_false.2 h1, klt_iff.2 (lex_tri h1 (fun e => h (by_inj e)))]; rfl
  rw [take_pos hd, drop_pos hd, f1, f2]
  simp [putP]

theorem get_at {ps : PS} (hs : SortedP ps) {s v : ByteArray} (h : getP ps s = some v) : ps[posP ps s]? = some (s, v) ∧ posP ps s < ps.length := by
  have h1 := (key_there hs s).1 ⟨v, h⟩
  unfold keysP at h1
  rw [List.getElem?_map] at h1
  obtain ⟨p, hp, h2⟩ := Option.map_eq_some_iff.1 h1
  obtain ⟨p1, p2⟩ := p
  simp only at h2
  subst h2
  have := getP_of_mem hs (List.mem_of_getElem? hp)
  rw [h] at this
  cases this
  exact ⟨hp, (List.getElem?_eq_some_iff.1 hp).1⟩

theorem not_at {ps : PS} {s : ByteArray} (h : getP ps s = none) {p : ByteArray × ByteArray} (hp : ps[posP ps s]? = some p) : p.1 ≠ s := getP_none h p (List.mem_of_getElem? hp)

theorem less_at {ps : PS} (hs : SortedP ps) (s : ByteArray) {t : Nat} {p : ByteArray × ByteArray} (hp : ps[t]? = some p) : (t < posP ps s → klt p.1 s = true) ∧ (posP ps s ≤ t → klt p.1 s = false) := by
  have := key_less hs s (t := t) (x := p.1) (by unfold keysP; rw [List.getElem?_map, hp]; rfl)
  exact ⟨fun h => klt_iff.2 (this.1 h), fun h => klt_false.2 (this.2 h)⟩

end Go.Proofs.Ytgfhaldfjnepmaa
