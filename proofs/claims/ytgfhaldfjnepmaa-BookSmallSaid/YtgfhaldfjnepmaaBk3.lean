/- A row of strings of one's own under stores of several cells: inserting and deleting in place. -/
import Derived.Test.YtgfhaldfjnepmaaBase
import Derived.Test.YtgfhaldfjnepmaaProg
import Derived.Laws.IdiomCopy
namespace Go.Proofs.Ytgfhaldfjnepmaa
open Go Go.RowKit Go.Shelf Go.Proofs

theorem heap_setCell_same {w : World} {g : Nat} {cur : Array Value} {e : TypeId} {fz : Nat × Nat} (h : w.heap[g]? = some (.cells cur e fz)) (o : Nat) (v : Value) :
    (w.setCell ⟨g, o, none⟩ v).heap[g]? = some (.cells (cur.setIfInBounds o v) e fz) := by
  simp [World.setCell, Array.getElem?_modify, h]

theorem setCells_block {g : Nat} {e : TypeId} {fz : Nat × Nat} : ∀ (vs : List Value) (o : Nat) (w : World) (cur : Array Value), w.heap[g]? = some (.cells cur e fz) → o + vs.length ≤ cur.size →
    ∃ cur' : Array Value, (w.setCells g o vs).heap[g]? = some (.cells cur' e fz) ∧ cur'.size = cur.size ∧ ∀ j, cur'[j]? = if o ≤ j ∧ j < o + vs.length then vs[j - o]? else cur[j]?
  | [], o, w, cur, h, _ => ⟨cur, h, rfl, fun j => by rw [if_neg (by simp)]⟩
  | v :: r, o, w, cur, h, hl => by
    simp only [List.length_cons] at hl
    obtain ⟨cur', h1, h2, h3⟩ := setCells_block r (o + 1) _ _ (heap_setCell_same h o v) (by simp; omega)
    refine ⟨cur', h1, by rw [h2]; simp, fun j => ?_⟩
    rw [h3 j]
    simp only [List.length_cons]
    by_cases hj : j = o
    · subst hj
      rw [if_neg (by omega), if_pos (by omega)]
      simp [Array.getElem?_setIfInBounds, show j < cur.size from by omega]
    · by_cases hc : o + 1 ≤ j ∧ j < o + 1 + r.length
      · rw [if_pos hc, if_pos (by omega)]
        rw [show j - o = (j - (o + 1)) + 1 from by omega, List.getElem?_cons_succ]
      · rw [if_neg hc, if_neg (by omega)]
        rw [Array.getElem?_setIfInBounds, if_neg (by omega)]

theorem setCells_other (g : Nat) : ∀ (vs : List Value) (o : Nat) (w : World) (k : Nat), k ≠ g → (w.setCells g o vs).heap[k]? = w.heap[k]?
  | [], _, _, _, _ => rfl
  | v :: r, o, w, k, h => by
    rw [World.setCells, setCells_other g r (o + 1) _ k h]
    exact Below.heap_setCell w ⟨g, o, none⟩ v k h

theorem setCells_size (g : Nat) : ∀ (vs : List Value) (o : Nat) (w : World), (w.setCells g o vs).heap.size = w.heap.size
  | [], _, _ => rfl
  | v :: r, o, w => by
    rw [World.setCells, setCells_size g r (o + 1)]
    simp [World.setCell]

theorem setCells_rest (g : Nat) : ∀ (vs : List Value) (o : Nat) (w : World), (w.setCells g o vs).os = w.os ∧ (w.setCells g o vs).tape = w.tape ∧ (w.setCells g o vs).output = w.output
  | [], _, _ => ⟨rfl, rfl, rfl⟩
  | v :: r, o, w => by rw [World.setCells]; exact setCells_rest g r (o + 1) _

theorem grown_setCells (w : World) (g o : Nat) (vs : List Value) : w.grownBy (w.setCells g o vs) (some g) :=
  ⟨(setCells_rest g vs o w).1, (setCells_rest g vs o w).2.1, (setCells_rest g vs o w).2.2, by rw [setCells_size]; exact Nat.le_refl _, fun k _ hk => setCells_other g vs o w k (fun e => hk (by rw [e]))⟩

theorem grown_trans {a b c : World} {row : Option Nat} (h : a.grownBy b row) (k : b.grownBy c row) : a.grownBy c row :=
  ⟨k.os.trans h.os, k.tape.trans h.tape, k.output.trans h.output, Nat.le_trans h.size k.size, fun i hi hne => (k.block i (Nat.lt_of_lt_of_le hi h.size) hne).trans (h.block i hi hne)⟩

theorem grown_weak {a b : World} (h : a.grownBy b none) (row : Option Nat) : a.grownBy b row :=
  ⟨h.os, h.tape, h.output, h.size, fun i hi _ => h.block i hi (by simp)⟩

theorem grown_drewN (w : World) (q : Nat) (row : Option Nat) : w.grownBy (w.drewN q) row := ⟨rfl, rfl, rfl, Nat.le_refl _, fun _ _ _ => rfl⟩
theorem grown_drew (w : World) (row : Option Nat) : w.grownBy w.drew row := ⟨rfl, rfl, rfl, Nat.le_refl _, fun _ _ _ => rfl⟩
theorem grown_refl (w : World) (row : Option Nat) : w.grownBy w row := ⟨rfl, rfl, rfl, Nat.le_refl _, fun _ _ _ => rfl⟩
theorem grown_of_below {w w' : World} (h : Below w.heap.size w w') (row : Option Nat) : w.grownBy w' row := ⟨h.os, h.tape, h.output, h.size, fun k hk _ => h.block k hk⟩

/-- The row of the keys. -/
abbrev Row (w : World) (B : Nat) (v : Value) (n : Nat) (xs : List ByteArray) : Prop := w.ownsRow B 9 1 v n (xs.map .string)

theorem Row.len {w : World} {B n : Nat} {v : Value} {xs : List ByteArray} (h : Row w B v n xs) : xs.length = n := by
  have := h.1
  simpa using this

/-- A row, from what its block holds. -/
theorem row_mk {w : World} {B g n cap : Nat} {cur : Array Value} {xs : List ByteArray} (hb : B ≤ g) (hh : w.heap[g]? = some (.cells cur 9 (0, 0))) (hs : cur.size = cap) (hn : n ≤ cap) (hm : cap ≤ maxLen) (hl : xs.length = n)
    (hx : ∀ j, j < n → cur[j]? = (xs[j]?).map Value.string) : Row w B (.slice (some ⟨g, 0, none⟩) n cap) n xs := by
  refine ⟨by simp [hl], .inr ⟨g, cap, cur, rfl, hb, hh, hn, hm, by omega, ?_⟩⟩
  apply List.ext_getElem?
  intro j
  rw [List.getElem?_take, List.getElem?_map]
  split
  · rename_i hj
    rw [← hx j (by omega)]; simp
  · rename_i hj
    rw [List.getElem?_eq_none (by omega)]; rfl

theorem row_get {w : World} {B n : Nat} {v : Value} {xs : List ByteArray} (h : Row w B v n xs) :
    (v = .slice none 0 0 ∧ n = 0 ∧ xs = []) ∨ ∃ (g cap : Nat) (cur : Array Value), v = .slice (some ⟨g, 0, none⟩) n cap ∧ B ≤ g ∧ w.heap[g]? = some (.cells cur 9 (0, 0)) ∧ n ≤ cap ∧ cap ≤ maxLen ∧ cur.size = cap ∧ ∀ j, j < n → cur[j]? = (xs[j]?).map Value.string := by
  have hl := h.len
  rcases h.2 with ⟨rfl, rfl⟩ | ⟨g, cap, cur, rfl, hb, hh, h1, h2, h3, ht⟩
  · exact .inl ⟨rfl, rfl, List.eq_nil_of_length_eq_zero hl⟩
  · refine .inr ⟨g, cap, cur, rfl, hb, hh, h1, h2, by omega, fun j hj => ?_⟩
    rw [← List.getElem?_map, ← ht, List.getElem?_take, if_pos (by omega)]
    simp

theorem row_cells {w : World} {B n g cap : Nat} {xs : List ByteArray} (h : Row w B (.slice (some ⟨g, 0, none⟩) n cap) n xs) : ∀ j, j < n → w.cell? ⟨g, 0 + j, none⟩ = some (.string (xs.getD j ByteArray.empty)) := by
  intro j hj
  have hl := h.len
  rcases row_get h with ⟨h1, _⟩ | ⟨g', cap', cur, h1, _, hh, _, _, _, hx⟩
  · cases h1
  · cases h1
    have := hx j hj
    rw [List.getElem?_eq_getElem (by omega)] at this
    rw [Nat.zero_add, cell_of_row w g j cur 9 (0, 0) hh, this]
    simp [List.getD, List.getElem?_eq_getElem (show j < xs.length by omega)]

def insertL (xs : List ByteArray) (i : Nat) (s : ByteArray) : List ByteArray := xs.take i ++ s :: xs.drop i
def deleteL (xs : List ByteArray) (i : Nat) : List ByteArray := xs.take i ++ xs.drop (i + 1)

theorem insertL_get (xs : List ByteArray) (i : Nat) (s : ByteArray) (hi : i ≤ xs.length) (j : Nat) : (insertL xs i s)[j]? = if j < i then xs[j]? else if j = i then some s else xs[j - 1]? := by
  unfold insertL
  rw [List.getElem?_append]
  simp only [List.length_take, Nat.min_eq_left hi]
  split
  · rw [List.getElem?_take, if_pos (by assumption)]
  · rename_i h
    by_cases e : j = i
    · subst e; simp
    · rw [if_neg e, show j - i = (j - i - 1) + 1 from by omega, List.getElem?_cons_succ, List.getElem?_drop, show i + (j - i - 1) = j - 1 from by omega]

theorem deleteL_get (xs : List ByteArray) (i : Nat) (hi : i ≤ xs.length) (j : Nat) : (deleteL xs i)[j]? = if j < i then xs[j]? else xs[j + 1]? := by
  unfold deleteL
  rw [List.getElem?_append]
  simp only [List.length_take, Nat.min_eq_left hi]
  split
  · rw [List.getElem?_take, if_pos (by assumption)]
  · rw [List.getElem?_drop, show i + 1 + (j - i) = j + 1 from by omega]

theorem insertL_length (xs : List ByteArray) (i : Nat) (s : ByteArray) (hi : i ≤ xs.length) : (insertL xs i s).length = xs.length + 1 := by simp [insertL]; omega
theorem deleteL_length (xs : List ByteArray) (i : Nat) (hi : i < xs.length) : (deleteL xs i).length = xs.length - 1 := by simp [deleteL]; omega

theorem row_insert {w : World} {B g n cap i : Nat} {xs : List ByteArray} {s : ByteArray} (h : Row w B (.slice (some ⟨g, 0, none⟩) n cap) n xs) (hi : i ≤ n) (hroom : n + 1 ≤ cap) :
    Row ((w.setCells g (i + 1) ((xs.map Value.string).drop i)).setCells g i [.string s]) B (.slice (some ⟨g, 0, none⟩) (n + 1) cap) (n + 1) (insertL xs i s) := by
  have hl := h.len
  rcases row_get h with ⟨h1, _⟩ | ⟨g', cap', cur, h1, hb, hh, hc1, hc2, hsz, hx⟩
  · cases h1
  · cases h1
    obtain ⟨c1, a1, a2, a3⟩ := setCells_block ((xs.map Value.string).drop i) (i + 1) w cur hh (by simp; omega)
    obtain ⟨c2, b1, b2, b3⟩ := setCells_block [.string s] i _ c1 a1 (by simp; omega)
    refine row_mk hb b1 (by omega) hroom hc2 (by rw [insertL_length xs i s (by omega)]; omega) (fun j hj => ?_)
    rw [b3 j, insertL_get xs i s (by omega), a3 j]
    simp only [List.length_cons, List.length_nil, List.length_drop, List.length_map]
    by_cases hj1 : j < i
    · rw [if_neg (by omega), if_neg (by omega), if_pos hj1]
      exact hx j (by omega)
    · by_cases hj2 : j = i
      · subst hj2
        rw [if_pos (by omega), if_neg (by omega), if_pos rfl]
        simp
      · rw [if_neg (by omega), if_pos (by omega), if_neg hj1, if_neg hj2, List.getElem?_drop, List.getElem?_map, show i + (j - (i + 1)) = j - 1 from by omega]

theorem row_delete {w : World} {B g n cap i : Nat} {xs : List ByteArray} (h : Row w B (.slice (some ⟨g, 0, none⟩) n cap) n xs) (hi : i < n) (u : Value) :
    Row (w.setCells g 0 ((deleteL xs i).map Value.string ++ [u])) B (.slice (some ⟨g, 0, none⟩) (n - 1) cap) (n - 1) (deleteL xs i) := by
  have hl := h.len
  rcases row_get h with ⟨h1, _⟩ | ⟨g', cap', cur, h1, hb, hh, hc1, hc2, hsz, hx⟩
  · cases h1
  · cases h1
    have hd := deleteL_length xs i (by omega)
    obtain ⟨c1, a1, a2, a3⟩ := setCells_block ((deleteL xs i).map Value.string ++ [u]) 0 w cur hh (by simp [hd]; omega)
    refine row_mk hb a1 (by omega) (by omega) hc2 (by omega) (fun j hj => ?_)
    rw [a3 j, if_pos ⟨Nat.zero_le _, by simp [hd]; omega⟩, Nat.sub_zero, List.getElem?_append_left (by simp [hd]; omega), List.getElem?_map]

end Go.Proofs.Ytgfhaldfjnepmaa
