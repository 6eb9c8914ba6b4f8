/- Plain laws: rows of marked pairs under stores and appends; families of rows that lie apart. -/
import Derived.Test.YtgfhaldfjnepmaaAp1
namespace Go.Proofs.Ytgfhaldfjnepmaa
open Go Go.RowKit Go.Shelf Go.Proofs

def mks (k n : Nat) : PS := (List.range n).map fun i => (mkt k i, ⟨#[]⟩)
theorem mks_length (k n : Nat) : (mks k n).length = n := by simp [mks]
theorem mks_zero (k : Nat) : mks k 0 = [] := rfl
theorem mks_succ (k n : Nat) : mks k (n + 1) = mks k n ++ [(mkt k n, ⟨#[]⟩)] := by simp [mks, List.range_succ]
theorem mks_get (k n : Nat) {i : Nat} (h : i < n) : (mks k n)[i]? = some (mkt k i, ⟨#[]⟩) := by simp [mks, h]
theorem mks_take (k : Nat) {n m : Nat} (h : n ≤ m) : (mks k m).take n = mks k n := by
  apply List.ext_getElem?
  intro i
  rw [List.getElem?_take]
  by_cases hi : i < n
  · rw [if_pos hi, mks_get k m (by omega), mks_get k n hi]
  · rw [if_neg hi]
    symm
    rw [List.getElem?_eq_none_iff, mks_length]
    omega
theorem mks_pre (k : Nat) {n m : Nat} (h : n ≤ m) : ∃ r, mks k m = mks k n ++ r := ⟨(mks k m).drop n, by rw [← mks_take k h, List.take_append_drop]⟩
theorem mkt_small (k n : Nat) : (mkt k n).size = 8 := rfl
theorem mks_small (k n : Nat) : ∀ p ∈ mks k n, p.1.size ≤ 1000 ∧ p.2.size ≤ 1000 := by
  intro p hp
  simp only [mks, List.mem_map, List.mem_range] at hp
  obtain ⟨i, _, rfl⟩ := hp
  exact ⟨by rw [mkt_small]; omega, Nat.zero_le _⟩

theorem pcells_set (ps : PS) (i : Nat) (a b : ByteArray) : pcells (ps.set i (a, b)) = ((pcells ps).set (i * 2) (.string a)).set (i * 2 + 1) (.string b) := by
  induction ps generalizing i with
  | nil => simp [pcells]
  | cons p r ih =>
    cases i with
    | zero => simp [pcells]
    | succ i =>
      have e : pcells (p :: r) = .string p.1 :: .string p.2 :: pcells r := by simp [pcells]
      have e2 : pcells (p :: r.set i (a, b)) = .string p.1 :: .string p.2 :: pcells (r.set i (a, b)) := by simp [pcells]
      rw [List.set_cons_succ, e2, ih, e, show (i + 1) * 2 + 1 = i * 2 + 1 + 1 + 1 from by omega, show (i + 1) * 2 = i * 2 + 1 + 1 from by omega]
      simp

/-- The block of a row of pairs. -/
theorem prow_blk {w : World} {B n c g : Nat} {ps : PS} (h : PRow w B (.slice (some ⟨g, 0, none⟩) n c) ps) : ∃ cur, n = ps.length ∧ B ≤ g ∧ w.heap[g]? = some (.cells cur 57 (0, 0)) ∧ n ≤ c ∧ c ≤ maxLen ∧ cur.size = c * 2 ∧ cur.toList.take (n * 2) = pcells ps := by
  rcases h.2 with ⟨e, _⟩ | ⟨g', c', cur, e, h1, h2, h3, h4, h5, h6⟩
  · cases e
  · cases e
    exact ⟨cur, rfl, h1, h2, h3, h4, h5, h6⟩

theorem prow_mk {w : World} {B n c g : Nat} {ps : PS} {cur : Array Value} (h0 : n = ps.length) (h1 : B ≤ g) (h2 : w.heap[g]? = some (.cells cur 57 (0, 0))) (h3 : n ≤ c) (h4 : c ≤ maxLen) (h5 : cur.size = c * 2) (h6 : cur.toList.take (n * 2) = pcells ps) : PRow w B (.slice (some ⟨g, 0, none⟩) n c) ps := by
  subst h0
  exact ⟨pcells_length ps, .inr ⟨g, c, cur, rfl, h1, h2, h3, h4, h5, h6⟩⟩

/-- What a row of pairs looks like. -/
theorem prow_form {w : World} {B : Nat} {v : Value} {ps : PS} (h : PRow w B v ps) : (v = .slice none 0 0 ∧ ps = []) ∨ ∃ g c, v = .slice (some ⟨g, 0, none⟩) ps.length c := by
  rcases prow_slice h with ⟨e, e2⟩ | h
  · exact .inl ⟨e, List.eq_nil_of_length_eq_zero e2⟩
  · exact .inr h

/-- A row lies still where its block does. -/
theorem prow_still {w w' : World} {B : Nat} {v : Value} {ps : PS} (h : PRow w B v ps) (hb : ∀ g, v.ownBlock = some g → w'.heap[g]? = w.heap[g]?) : PRow w' B v ps := by
  refine ⟨h.1, ?_⟩
  rcases h.2 with h1 | ⟨g, cap, cur, rfl, a, hh, r⟩
  · exact .inl h1
  · exact .inr ⟨g, cap, cur, rfl, a, (hb g rfl).trans hh, r⟩

/-- A pair of a row is stored. -/
theorem prow_set {w : World} {B n c g : Nat} {ps : PS} (h : PRow w B (.slice (some ⟨g, 0, none⟩) n c) ps) (i : Nat) (a b : ByteArray) :
    PRow ((w.setCell ⟨g, i * 2, none⟩ (.string a)).setCell ⟨g, i * 2 + 1, none⟩ (.string b)) B (.slice (some ⟨g, 0, none⟩) n c) (ps.set i (a, b)) := by
  obtain ⟨cur, h0, h1, h2, h3, h4, h5, h6⟩ := prow_blk h
  have k1 := heap_setCell_same h2 (i * 2) (.string a)
  have k2 := heap_setCell_same k1 (i * 2 + 1) (.string b)
  refine prow_mk (by simp [h0]) h1 k2 h3 h4 (by simp [h5]) ?_
  rw [pcells_set, ← h6]
  simp [List.take_set]

/-- Where a pair lies. -/
theorem prow_at {w : World} {B n c g : Nat} {ps : PS} (h : PRow w B (.slice (some ⟨g, 0, none⟩) n c) ps) {i : Nat} {p : ByteArray × ByteArray} (hp : ps[i]? = some p) :
    w.cell? ⟨g, i * 2, none⟩ = some (.string p.1) ∧ w.cell? ⟨g, i * 2 + 1, none⟩ = some (.string p.2) ∧ ∀ j, w.frozen? ⟨g, j, none⟩ = false := by
  obtain ⟨cur, h0, h1, h2, h3, h4, h5, h6⟩ := prow_blk h
  obtain ⟨e1, e2⟩ := pcells_get ps i p hp
  have hi : i < ps.length := (List.getElem?_eq_some_iff.1 hp).1
  rw [← h6, List.getElem?_take_of_lt (by omega)] at e1 e2
  refine ⟨?_, ?_, fun j => by simp [World.frozen?, h2]⟩
  · rw [cell_of_row w g _ cur _ (0, 0) h2]; simpa using e1
  · rw [cell_of_row w g _ cur _ (0, 0) h2]; simpa using e2

/-- Two slices of one block: the shorter follows the longer. -/
theorem prow_share {w w' : World} {B n c n' c' g : Nat} {ps qs : PS} (h : PRow w B (.slice (some ⟨g, 0, none⟩) n c) ps) (k : PRow w B (.slice (some ⟨g, 0, none⟩) n' c') qs) (k' : PRow w' B (.slice (some ⟨g, 0, none⟩) n' c') qs) (hpre : ∃ r, qs = ps ++ r) : PRow w' B (.slice (some ⟨g, 0, none⟩) n c) ps := by
  obtain ⟨cur, h0, h1, h2, h3, h4, h5, h6⟩ := prow_blk h
  obtain ⟨cur1, k0, k1, k2, k3, k4, k5, k6⟩ := prow_blk k
  obtain ⟨cur2, m0, m1, m2, m3, m4, m5, m6⟩ := prow_blk k'
  obtain ⟨r, rfl⟩ := hpre
  rw [k2] at h2
  cases h2
  refine prow_mk h0 h1 m2 h3 h4 (by omega) ?_
  have hle : n * 2 ≤ n' * 2 := by rw [h0, k0]; simp; omega
  have : cur2.toList.take (n * 2) = (cur2.toList.take (n' * 2)).take (n * 2) := by rw [List.take_take, Nat.min_eq_left hle]
  rw [this, m6, pcells_append, List.take_left' (by rw [pcells_length, h0])]

/-- append of pairs onto an own row: the old slice still tells what it told. -/
theorem run_app_pairs (w : World) (B : Nat) (ty : TypeId) {v : Value} {xs : PS} (hown : PRow w B v xs) (ad : Addr) (m c : Nat) (news : PS) (hl : news.length = m) (hnews : ∀ j u, (pcells news)[j]? = some u → w.cell? (ad.add j) = some u) (hnm : xs.length + m ≤ 200000) (hB : B ≤ w.heap.size) :
    ∃ v' w', (Builtin.append_ #[47, 47] ty #[v, .slice (some ad) m c]).run Try.prog w = .ok v' w' ∧ PRow w' B v' (xs ++ news) ∧ w.grownBy w' v.ownBlock ∧ (v'.ownBlock = v.ownBlock ∨ v'.ownBlock = some w.heap.size) ∧ PRow w' B v xs := by
  obtain ⟨i0, hi, hz0, hz1, hz2⟩ := info_parts2 infoPair
  have hlc : (pcells news).length = m * 2 := by rw [pcells_length, hl]
  obtain ⟨v', w', hr, h2, h3, _, h5⟩ := run_append_own_at (P := Try.prog) w B 47 ty 57 i0 (.agg #[.string ⟨#[]⟩, .string ⟨#[]⟩]) 2 32 Try.underlying47 hi hz0 hz1 hz2 rfl (by decide) v xs.length (pcells xs) hown ad m c (pcells news) hlc hnews (pcells_one news) (by unfold maxLen; omega) (by omega) hB
  have h2' : PRow w' B v' (xs ++ news) := by unfold PRow; rw [List.length_append, hl, pcells_append]; exact h2
  refine ⟨v', w', hr, h2', h3, h5, ?_⟩
  rcases prow_form hown with ⟨rfl, rfl⟩ | ⟨g, cp, rfl⟩
  · exact prow_nil _ _
  · obtain ⟨cur, k0, k1, k2, k3, k4, k5, k6⟩ := prow_blk hown
    by_cases hroom : xs.length + m ≤ cp
    · have hfit : xs.length * i0.size + (pcells news).length ≤ cur.size := by rw [hz1, hlc, k5]; omega
      have hr2 := run_append_room (P := Try.prog) w 47 ty 57 i0 Try.underlying47 hi g xs.length cp cur k2 ad m c (pcells news) (by rw [hz1]; exact hlc) hnews (pcells_one news) hroom hfit
      rw [hr] at hr2
      cases hr2
      obtain ⟨cur2, m0, m1, m2, m3, m4, m5, m6⟩ := prow_blk h2'
      refine prow_mk rfl k1 m2 k3 k4 m5 ?_
      have : cur2.toList.take (xs.length * 2) = (cur2.toList.take ((xs.length + m) * 2)).take (xs.length * 2) := by rw [List.take_take, Nat.min_eq_left (by omega)]
      rw [this, m6, pcells_append, List.take_left' (pcells_length xs)]
    · have hr2 := run_append_grow (P := Try.prog) w 47 ty 57 i0 _ Try.underlying47 hi hz0 ⟨g, 0, none⟩ xs.length cp (pcells xs) (by rw [hz1, pcells_length]) (hown.cells (g := g) rfl) ad m c (pcells news) (by rw [hz1]; exact hlc) hnews (by omega) (by omega) (growslice_fits (by omega) (by rw [hz2]; omega))
      rw [hr] at hr2
      cases hr2
      exact prow_still hown (fun g' hg' => by
        cases hg'
        exact (Below.heap_alloc _ _ _ (by simpa using (Array.getElem?_eq_some_iff.1 k2).1)))

end Go.Proofs.Ytgfhaldfjnepmaa
