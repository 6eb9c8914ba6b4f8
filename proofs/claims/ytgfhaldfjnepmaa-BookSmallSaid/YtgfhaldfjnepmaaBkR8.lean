/- What lies still while an operation is done on both the book and its reference model. -/
import Derived.Test.YtgfhaldfjnepmaaBkR7
import Derived.Test.YtgfhaldfjnepmaaBk26
namespace Go.Proofs.Ytgfhaldfjnepmaa
open Go Go.RowKit Go.Shelf Go.Proofs
attribute [local go_sem] Oper.semAt_some

/-- A block that holds a reference model. -/
def RefBlk (w : World) (k : Nat) (x y z : Value) : Prop := w.heap[k]? = some (.cells #[x, y, z] 62 (0, 0))
/-- A block that holds an operation. -/
def DeedBlk (w : World) (k : Nat) (d : Deed) : Prop := w.heap[k]? = some (.cells #[.int .i64 d.what, .string d.key, .string d.value, .string d.old, .int .i64 d.n] 46 (0, 0))

theorem RefBlk.cells {w : World} {k : Nat} {x y z : Value} (h : RefBlk w k x y z) : w.cell? ⟨k, 0, none⟩ = some x ∧ w.cell? ⟨k, 1, none⟩ = some y ∧ w.cell? ⟨k, 2, none⟩ = some z := by
  unfold RefBlk at h
  simp [World.cell?, h]
theorem RefBlk.frozen {w : World} {k : Nat} {x y z : Value} (h : RefBlk w k x y z) (j : Nat) : w.frozen? ⟨k, j, none⟩ = false := by
  unfold RefBlk at h
  simp [World.frozen?, h]
theorem DeedBlk.cells {w : World} {k : Nat} {d : Deed} (h : DeedBlk w k d) : w.cell? ⟨k, 0, none⟩ = some (.int .i64 d.what) ∧ w.cell? ⟨k, 1, none⟩ = some (.string d.key) ∧ w.cell? ⟨k, 2, none⟩ = some (.string d.value) ∧ w.cell? ⟨k, 3, none⟩ = some (.string d.old) ∧ w.cell? ⟨k, 4, none⟩ = some (.int .i64 d.n) := by
  unfold DeedBlk at h
  simp [World.cell?, h]
theorem RefBlk.lt {w : World} {k : Nat} {x y z : Value} (h : RefBlk w k x y z) : k < w.heap.size := (Array.getElem?_eq_some_iff.1 h).1
theorem DeedBlk.lt {w : World} {k : Nat} {d : Deed} (h : DeedBlk w k d) : k < w.heap.size := (Array.getElem?_eq_some_iff.1 h).1
theorem RefBlk.below {w w' : World} {B k : Nat} {x y z : Value} (h : RefBlk w k x y z) (hk : k < B) (hb : Below B w w') : RefBlk w' k x y z := (hb.block k hk).trans h
theorem DeedBlk.below {w w' : World} {B k : Nat} {d : Deed} (h : DeedBlk w k d) (hk : k < B) (hb : Below B w w') : DeedBlk w' k d := (hb.block k hk).trans h
theorem RefBlk.turned {B b m : Nat} {v v' : Value} {w w' : World} {K M : Nat} {ps : PS} (hB : BookAt w B b m v K M ps) (ht : Turned b m v w v' w') {k : Nat} {x y z : Value} (h : RefBlk w k x y z) : RefBlk w' k x y z := ht.cells_stay hB h (by decide) (by decide)
theorem DeedBlk.turned {B b m : Nat} {v v' : Value} {w w' : World} {K M : Nat} {ps : PS} (hB : BookAt w B b m v K M ps) (ht : Turned b m v w v' w') {k : Nat} {d : Deed} (h : DeedBlk w k d) : DeedBlk w' k d := ht.cells_stay hB h (by decide) (by decide)
theorem RefBlk.new (w : World) (x y z : Value) : RefBlk (w.alloc (.cells #[x, y, z] 62)) w.heap.size x y z := World.alloc_heap_new _ _
theorem DeedBlk.new (w : World) (d : Deed) : DeedBlk (w.alloc (.cells #[.int .i64 d.what, .string d.key, .string d.value, .string d.old, .int .i64 d.n] 46)) w.heap.size d := World.alloc_heap_new _ _
theorem RefBlk.heap {w w' : World} {k : Nat} {x y z : Value} (h : RefBlk w k x y z) (e : w'.heap = w.heap) : RefBlk w' k x y z := by unfold RefBlk; rw [e]; exact h
theorem DeedBlk.heap {w w' : World} {k : Nat} {d : Deed} (h : DeedBlk w k d) (e : w'.heap = w.heap) : DeedBlk w' k d := by unfold DeedBlk; rw [e]; exact h

/-- All three cells of a block, set. -/
def set3 (w : World) (k : Nat) (x y z : Value) : World := ((w.setCell ⟨k, 0, none⟩ x).setCell ⟨k, 1, none⟩ y).setCell ⟨k, 2, none⟩ z

theorem set3_other (w : World) (k j : Nat) (x y z : Value) (h : k ≠ j) : (set3 w k x y z).heap[j]? = w.heap[j]? := by
  unfold set3
  rw [Below.heap_setCell _ _ _ _ (by simpa using h.symm), Below.heap_setCell _ _ _ _ (by simpa using h.symm), Below.heap_setCell _ _ _ _ (by simpa using h.symm)]
theorem set3_size (w : World) (k : Nat) (x y z : Value) : (set3 w k x y z).heap.size = w.heap.size := by simp [set3, World.setCell]
theorem set3_same {w : World} {k : Nat} {x y z x' y' z' : Value} (h : RefBlk w k x y z) : RefBlk (set3 w k x' y' z') k x' y' z' := by
  have h1 := heap_setCell_same (w := w) (v := x') (o := 0) h
  have h2 := heap_setCell_same (v := y') (o := 1) h1
  have h3 := heap_setCell_same (v := z') (o := 2) h2
  exact h3
theorem set3_rest (w : World) (k : Nat) (x y z : Value) : (set3 w k x y z).os = w.os ∧ (set3 w k x y z).tape = w.tape ∧ (set3 w k x y z).output = w.output := ⟨rfl, rfl, rfl⟩

theorem set3_below {B k : Nat} {w w' : World} (h : Below B w w') (hk : B ≤ k) (x y z : Value) : Below B w (set3 w' k x y z) := below_out h hk x y z

/-- A book beside a reference model's block that is set. -/
theorem BookAt.set3 {B b m : Nat} {v : Value} {w : World} {K M : Nat} {ps : PS} (h : BookAt w B b m v K M ps) {k : Nat} {x y z x' y' z' : Value} (hk : RefBlk w k x y z) : BookAt (set3 w k x' y' z') B b m v K M ps := by
  have hne : ∀ (j : Nat) (ob : Obj), w.heap[j]? = some ob → (∀ c f, ob ≠ .cells c 62 f) → (Go.Proofs.Ytgfhaldfjnepmaa.set3 w k x' y' z').heap[j]? = w.heap[j]? := fun j ob hj hob => set3_other _ _ _ _ _ _ (by
    rintro rfl
    unfold RefBlk at hk
    rw [hk] at hj
    cases hj
    exact hob _ _ rfl)
  obtain ⟨f, hf, _⟩ := h.map
  obtain ⟨es, clock, hm⟩ := hf.isMap
  refine h.stay (hne _ _ h.cells (fun _ _ e => by cases e)) (hne _ _ hm (fun _ _ e => by cases e)) (fun g hg => ?_) (fun g cur fz hg => (hne _ _ hg (fun _ _ e => by cases e)).trans hg)
  rcases row_get h.row with ⟨rfl, _⟩ | ⟨g', cap, cur', rfl, _, hh, _⟩
  · simp [Value.ownBlock] at hg
  · simp [Value.ownBlock] at hg
    subst hg
    exact hne _ _ hh (fun _ _ e => by cases e)

theorem prow_set3 {w : World} {B : Nat} {pv : Value} {ps : PS} (h : PRow w B pv ps) {k : Nat} {x y z x' y' z' : Value} (hk : RefBlk w k x y z) : PRow (set3 w k x' y' z') B pv ps := by
  refine ⟨h.1, ?_⟩
  rcases h.2 with h1 | ⟨g, cap, cur, rfl, a, hh, r⟩
  · exact .inl h1
  · refine .inr ⟨g, cap, cur, rfl, a, (set3_other _ _ _ _ _ _ ?_).trans hh, r⟩
    rintro rfl
    unfold RefBlk at hk
    rw [hk] at hh
    cases hh

theorem Turned.set3 {b m : Nat} {v v' : Value} {w w' : World} (h : Turned b m v w v' w') {k : Nat} (hk : w.heap.size ≤ k) (x y z : Value) : Turned b m v w v' (set3 w' k x y z) := by
  obtain ⟨e1, e2, e3⟩ := set3_rest w' k x y z
  exact ⟨⟨e1.trans h.1.os, e2.trans h.1.tape, e3.trans h.1.output, by rw [set3_size]; exact h.1.size, fun j hj a c d => (set3_other _ _ _ _ _ _ (by omega)).trans (h.1.block j hj a c d)⟩, h.2⟩

/-- A new block, set at once. -/
theorem new_set3 (w : World) (x y z x' y' z' : Value) : RefBlk (set3 (w.alloc (.cells #[x, y, z] 62)) w.heap.size x' y' z') w.heap.size x' y' z' ∧ Below w.heap.size w (set3 (w.alloc (.cells #[x, y, z] 62)) w.heap.size x' y' z') :=
  ⟨set3_same (RefBlk.new w x y z), set3_below ((Below.refl _ _).alloc (Nat.le_refl _) _) (Nat.le_refl _) _ _ _⟩

end Go.Proofs.Ytgfhaldfjnepmaa
