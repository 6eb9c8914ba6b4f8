/- A book: what its blocks hold, and what an operation on it leaves alone. -/
import Derived.Test.YtgfhaldfjnepmaaBk1
import Derived.Test.YtgfhaldfjnepmaaBk2
import Derived.Test.YtgfhaldfjnepmaaBk3
namespace Go.Proofs.Ytgfhaldfjnepmaa
open Go Go.RowKit Go.Shelf Go.Proofs

/-- A value: its bytes lie in a row of their own. -/
def BytesAt (w : World) (x : Value) (s : ByteArray) : Prop :=
  ∃ (a cap : Nat) (cur : Array Value) (fz : Nat × Nat), x = .slice (some ⟨a, 0, none⟩) s.size cap ∧ w.heap[a]? = some (.cells cur 5 fz) ∧ ∀ j (hj : j < s.data.toList.length), cur[j]? = some (.int .u8 (s.data.toList[j].toNat : Int))

/-- A book of the pairs ps under the limits K, M: its struct lies in block b, its map in m; v is its slice of keys. -/
structure BookAt (w : World) (B b m : Nat) (v : Value) (K M : Nat) (ps : PS) : Prop where
  hb : B ≤ b
  hm : B ≤ m
  cells : w.heap[b]? = some (.cells #[v, .map (some m), .int .u64 K, .int .u64 M, .int .u64 (totP ps)] 95 (0, 0))
  row : Row w B v ps.length (keysP ps)
  map : ∃ f, MapAt w m ps.length f ∧ ∀ s, s.size ≤ 1000 → (getP ps s = none → f s = none) ∧ ∀ u, getP ps s = some u → ∃ x, f s = some x ∧ BytesAt w x u
  sorted : SortedP ps
  small : ∀ p ∈ ps, p.1.size ≤ 16 ∧ p.2.size ≤ 32
  keys : ps.length ≤ K
  bytes : totP ps ≤ M
  hK : K < 2 ^ 64
  hM : M < 2 ^ 64

/-- What an operation on a book leaves alone. -/
structure Kept (b m : Nat) (o : Option Nat) (w w' : World) : Prop where
  os : w'.os = w.os
  tape : w'.tape = w.tape
  output : w'.output = w.output
  size : w.heap.size ≤ w'.heap.size
  block : ∀ k, k < w.heap.size → k ≠ b → k ≠ m → some k ≠ o → w'.heap[k]? = w.heap[k]?

/-- .. and where its keys lie then. -/
def Turned (b m : Nat) (v : Value) (w : World) (v' : Value) (w' : World) : Prop :=
  Kept b m v.ownBlock w w' ∧ (v'.ownBlock = v.ownBlock ∨ v'.ownBlock = none ∨ ∃ k, v'.ownBlock = some k ∧ w.heap.size ≤ k)

theorem Kept.refl (b m : Nat) (o : Option Nat) (w : World) : Kept b m o w w := ⟨rfl, rfl, rfl, Nat.le_refl _, fun _ _ _ _ _ => rfl⟩
theorem Turned.refl (b m : Nat) (v : Value) (w : World) : Turned b m v w v w := ⟨Kept.refl .., .inl rfl⟩
theorem Kept.of_below {b m : Nat} {o : Option Nat} {w w' : World} (h : Below w.heap.size w w') : Kept b m o w w' := ⟨h.os, h.tape, h.output, h.size, fun k hk _ _ _ => h.block k hk⟩
theorem Turned.of_below {b m : Nat} {v : Value} {w w' : World} (h : Below w.heap.size w w') : Turned b m v w v w' := ⟨Kept.of_below h, .inl rfl⟩
theorem Kept.of_grown {b m : Nat} {o row : Option Nat} {w w' : World} (h : w.grownBy w' row) (hr : row = none ∨ row = some b ∨ row = some m ∨ row = o) : Kept b m o w w' :=
  ⟨h.os, h.tape, h.output, h.size, fun k hk h1 h2 h3 => h.block k hk (by rcases hr with rfl | rfl | rfl | rfl <;> simp_all)⟩

theorem Turned.trans {b m : Nat} {v v1 v2 : Value} {w w1 w2 : World} (h : Turned b m v w v1 w1) (k : Turned b m v1 w1 v2 w2) : Turned b m v w v2 w2 := by
  obtain ⟨h1, h2⟩ := h
  obtain ⟨k1, k2⟩ := k
  refine ⟨⟨k1.os.trans h1.os, k1.tape.trans h1.tape, k1.output.trans h1.output, Nat.le_trans h1.size k1.size, fun i hi a c d => ?_⟩, ?_⟩
  · refine (k1.block i (Nat.lt_of_lt_of_le hi h1.size) a c ?_).trans (h1.block i hi a c d)
    rcases h2 with e | e | ⟨n, e, hn⟩
    · rw [e]; exact d
    · rw [e]; simp
    · rw [e]; intro e2; cases e2; omega
  · rcases k2 with e | e | ⟨n, e, hn⟩
    · rw [e]; exact h2
    · exact .inr (.inl e)
    · exact .inr (.inr ⟨n, e, Nat.le_trans h1.size hn⟩)

theorem Turned.size {b m : Nat} {v v1 : Value} {w w1 : World} (h : Turned b m v w v1 w1) : w.heap.size ≤ w1.heap.size := h.1.size

/-- Blocks of another kind stay. -/
theorem Turned.cells_stay {B b m : Nat} {v v' : Value} {w w' : World} {K M : Nat} {ps : PS} (hB : BookAt w B b m v K M ps) (h : Turned b m v w v' w') {g : Nat} {cur : Array Value} {e : TypeId} {fz : Nat × Nat}
    (hg : w.heap[g]? = some (.cells cur e fz)) (h1 : e ≠ 95) (h2 : e ≠ 9) : w'.heap[g]? = some (.cells cur e fz) := by
  rw [h.1.block g (Array.getElem?_eq_some_iff.1 hg).1 ?_ ?_ ?_, hg]
  · rintro rfl
    rw [hB.cells] at hg; cases hg; exact h1 rfl
  · rintro rfl
    obtain ⟨f, hf, _⟩ := hB.map
    obtain ⟨es, clock, hm⟩ := hf.isMap
    rw [hm] at hg; cases hg
  · intro e2
    rcases row_get hB.row with ⟨rfl, _⟩ | ⟨g', cap, cur', rfl, _, hh, _⟩
    · simp [Value.ownBlock] at e2
    · simp [Value.ownBlock] at e2
      subst e2
      rw [hh] at hg; cases hg; exact h2 rfl

theorem Turned.below {B b m : Nat} {v v' : Value} {w w' : World} {K M : Nat} {ps : PS} (hB : BookAt w B b m v K M ps) (h : Turned b m v w v' w') (hs : B ≤ w.heap.size) : Below B w w' := by
  refine ⟨h.1.os, h.1.tape, h.1.output, h.1.size, fun k hk => h.1.block k (by omega) ?_ ?_ ?_⟩
  · have := hB.hb; omega
  · have := hB.hm; omega
  · intro e
    have := (hB.row.lt k e.symm).1
    omega

theorem BytesAt.stay {w w' : World} {x : Value} {s : ByteArray} (h : BytesAt w x s) (hw : ∀ (g : Nat) (cur : Array Value) (fz : Nat × Nat), w.heap[g]? = some (.cells cur 5 fz) → w'.heap[g]? = some (.cells cur 5 fz)) : BytesAt w' x s := by
  obtain ⟨a, cap, cur, fz, rfl, h1, h2⟩ := h
  exact ⟨a, cap, cur, fz, rfl, hw _ _ _ h1, h2⟩

theorem BookAt.lt {B b m : Nat} {v : Value} {w : World} {K M : Nat} {ps : PS} (h : BookAt w B b m v K M ps) : b < w.heap.size ∧ m < w.heap.size := by
  obtain ⟨f, hf, _⟩ := h.map
  exact ⟨(Array.getElem?_eq_some_iff.1 h.cells).1, hf.lt⟩

/-- A book stays what it is while its blocks stay. -/
theorem BookAt.stay {B b m : Nat} {v : Value} {w w' : World} {K M : Nat} {ps : PS} (h : BookAt w B b m v K M ps) (hb : w'.heap[b]? = w.heap[b]?) (hm : w'.heap[m]? = w.heap[m]?) (hv : ∀ k, v.ownBlock = some k → w'.heap[k]? = w.heap[k]?)
    (hu : ∀ (g : Nat) (cur : Array Value) (fz : Nat × Nat), w.heap[g]? = some (.cells cur 5 fz) → w'.heap[g]? = some (.cells cur 5 fz)) : BookAt w' B b m v K M ps := by
  obtain ⟨f, hf, hx⟩ := h.map
  refine { h with cells := hb.trans h.cells, row := ?_, map := ⟨f, hf.block hm, fun s hs => ⟨(hx s hs).1, fun u hu' => ?_⟩⟩ }
  · refine ⟨h.row.1, ?_⟩
    rcases h.row.2 with h1 | ⟨g, cap, cur, rfl, a, h2, r⟩
    · exact .inl h1
    · exact .inr ⟨g, cap, cur, rfl, a, (hv g rfl).trans h2, r⟩
  · obtain ⟨x, e, hb⟩ := (hx s hs).2 u hu'
    exact ⟨x, e, hb.stay hu⟩

theorem BookAt.below {B b m : Nat} {v : Value} {w w' : World} {K M : Nat} {ps : PS} (h : BookAt w B b m v K M ps) (hw : Below w.heap.size w w') : BookAt w' B b m v K M ps :=
  h.stay (hw.block _ h.lt.1) (hw.block _ h.lt.2) (fun k hk => hw.block _ (h.row.lt k hk).2) (fun g _ _ hg => (hw.block g (Array.getElem?_eq_some_iff.1 hg).1).trans hg)

theorem BookAt.cell {B b m : Nat} {v : Value} {w : World} {K M : Nat} {ps : PS} (h : BookAt w B b m v K M ps) :
    w.cell? ⟨b, 0, none⟩ = some v ∧ w.cell? ⟨b, 1, none⟩ = some (.map (some m)) ∧ w.cell? ⟨b, 2, none⟩ = some (.int .u64 K) ∧ w.cell? ⟨b, 3, none⟩ = some (.int .u64 M) ∧ w.cell? ⟨b, 4, none⟩ = some (.int .u64 (totP ps)) ∧
    (∀ j, w.frozen? ⟨b, j, none⟩ = false) := by
  have hc := h.cells
  refine ⟨?_, ?_, ?_, ?_, ?_, fun j => ?_⟩
  all_goals simp [World.cell?, World.frozen?, hc]

/-- Where the keys' slice points. -/
theorem BookAt.apart {B b m : Nat} {v : Value} {w : World} {K M : Nat} {ps : PS} (h : BookAt w B b m v K M ps) : b ≠ m ∧ v.ownBlock ≠ some b ∧ v.ownBlock ≠ some m := by
  obtain ⟨f, hf, _⟩ := h.map
  obtain ⟨es, clock, hm⟩ := hf.isMap
  have hc := h.cells
  refine ⟨?_, ?_, ?_⟩
  · rintro rfl
    rw [hc] at hm; cases hm
  · intro e
    rcases row_get h.row with ⟨rfl, _⟩ | ⟨g', cap, cur', rfl, _, hh, _⟩
    · simp [Value.ownBlock] at e
    · simp [Value.ownBlock] at e
      subst e
      rw [hh] at hc
      simp at hc
  · intro e
    rcases row_get h.row with ⟨rfl, _⟩ | ⟨g', cap, cur', rfl, _, hh, _⟩
    · simp [Value.ownBlock] at e
    · simp [Value.ownBlock] at e
      subst e
      rw [hh] at hm
      cases hm

end Go.Proofs.Ytgfhaldfjnepmaa
