/- Walk of code.Decode: what lies in its blocks while the loop over the reader's bytes runs; its deferred closure. -/
import Derived.Test.YtegccicplcjcmaaCode4
import Derived.Test.YtegccicplcjcmaaCodeC2
import Derived.RecoverIn
namespace Go.Proofs.Ytegccicplcjcmaa
open Go Go.RowKit Go.Shelf Go.Proofs Go.Sort
attribute [local go_sem] Oper.semAt_some

/-- What Decode hands back. -/
def decV (s : ByteArray) : Value := match decL (by_ s) with
  | some xs => .tuple #[.string (bs xs), .int .i64 0]
  | none => .tuple #[.string ⟨#[]⟩, .int .i64 4]

/-- The blocks of Decode's own, h the first of them: the named results, the reader (at place k), the slice out (of the bytes pre), the iterator's box, the block for the rounds' deferred calls. -/
def DecC (w : World) (s : ByteArray) (pre : List UInt8) (k : Nat) (W : World) : Prop :=
  Boxed W w.heap.size 9 (.string ⟨#[]⟩) ∧ Boxed W (w.heap.size + 1) 29 (.int .i64 0) ∧
  W.heap[w.heap.size + 1 + 1]? = some (.cells #[.string s, .int .i64 (k : Nat)] 136 (0, 0)) ∧
  OutBox w.heap.size (w.heap.size + 1 + 1 + 1) pre W ∧ Boxed W (w.heap.size + 1 + 1 + 1 + 1) 132 (.pointer (some ⟨w.heap.size + 1 + 1, 0, none⟩)) ∧
  W.heap[w.heap.size + 1 + 1 + 1 + 1 + 1]? = some (.deferred (some [])) ∧ Below w.heap.size w W

theorem outBox_kept {n₀ B : Nat} {l : List UInt8} {W W' : World} {row : Option Nat} (h : OutBox n₀ B l W) (hg : W.grownBy W' row) (hr : ∀ j, row = some j → j < W.heap.size → j ≠ B ∧ ∀ c, W.heap[j]? ≠ some (.cells c 5 (0, 0))) : OutBox n₀ B l W' := by
  obtain ⟨v, hv, hrow, hn⟩ := h
  refine ⟨v, hv.kept hg (fun e => ?_), hrow.kept hg ?_, hn⟩
  · exact (hr B e.symm hv.lt).1 rfl
  · rcases hrow.2 with ⟨rfl, _⟩ | ⟨g, cap, cur, rfl, _, hgb, _⟩
    · exact .inl rfl
    · refine .inr (fun e => ?_)
      exact (hr g (by simpa [Value.ownBlock] using e.symm) (Array.getElem?_eq_some_iff.1 hgb).1).2 _ hgb

theorem decC_lt {w : World} {s : ByteArray} {pre : List UInt8} {k : Nat} {W : World} (h : DecC w s pre k W) : w.heap.size + 1 + 1 + 1 + 1 + 1 < W.heap.size := (Array.getElem?_eq_some_iff.1 h.2.2.2.2.2.1).1

theorem decC_below {w : World} {s : ByteArray} {pre : List UInt8} {k : Nat} {W W' : World} (h : DecC w s pre k W) (hb : Below W.heap.size W W') : DecC w s pre k W' := by
  have hlt := decC_lt h
  obtain ⟨h1, h2, h3, ⟨v, hv, hrow, hn⟩, h5, h6, h7⟩ := h
  have key : ∀ j, j < W.heap.size → W'.heap[j]? = W.heap[j]? := hb.block
  exact ⟨(key _ (by omega)).trans h1, (key _ (by omega)).trans h2, (key _ (by omega)).trans h3, ⟨v, (key _ (by omega)).trans hv, ownsRow_below hrow hb (Nat.le_refl _), hn⟩, (key _ (by omega)).trans h5, (key _ (by omega)).trans h6, h7.trans (hb.mono (by omega))⟩

theorem decC_next {w : World} {s : ByteArray} {pre : List UInt8} {k : Nat} {W : World} (h : DecC w s pre k W) : DecC w s pre (k + 1) (W.setCell ⟨w.heap.size + 1 + 1, 1, none⟩ (.int .i64 ((k : Int) + 1))) := by
  have hlt := decC_lt h
  obtain ⟨h1, h2, h3, h4, h5, h6, h7⟩ := h
  have key : ∀ j, j ≠ w.heap.size + 1 + 1 → (W.setCell ⟨w.heap.size + 1 + 1, 1, none⟩ (.int .i64 ((k : Int) + 1))).heap[j]? = W.heap[j]? := fun j hj => Below.heap_setCell _ _ _ j hj
  refine ⟨(key _ (by omega)).trans h1, (key _ (by omega)).trans h2, ?_, outBox_kept h4 (grownBy_setCellA _ _ _) (fun j ej _ => ?_), (key _ (by omega)).trans h5, (key _ (by omega)).trans h6, h7.setCell (by simp; omega) _⟩
  · obtain ⟨hl, hk⟩ := Array.getElem?_eq_some_iff.1 h3
    show (W.heap.modify (w.heap.size + 1 + 1) _)[w.heap.size + 1 + 1]? = _
    rw [Array.getElem?_eq_getElem (by rw [Array.size_modify]; exact hl), Array.getElem_modify_self, hk]
    rfl
  · have e : j = w.heap.size + 1 + 1 := by simpa using ej.symm
    subst e
    refine ⟨by omega, fun c hc => ?_⟩
    rw [h3] at hc
    have := Option.some.inj hc
    simp at this

theorem decC_cells {w : World} {s : ByteArray} {pre : List UInt8} {k : Nat} {W : World} (h : DecC w s pre k W) :
    W.cell? ⟨w.heap.size + 1 + 1, 0, none⟩ = some (.string s) ∧ W.cell? ⟨w.heap.size + 1 + 1, 1, none⟩ = some (.int .i64 k) ∧ W.frozen? ⟨w.heap.size + 1 + 1, 1, none⟩ = false ∧ W.cell? ⟨w.heap.size + 1 + 1 + 1 + 1, 0, none⟩ = some (.pointer (some ⟨w.heap.size + 1 + 1, 0, none⟩)) := by
  obtain ⟨h1, h2, h3, h4, h5, h6, h7⟩ := h
  refine ⟨?_, ?_, ?_, h5.cell⟩
  · simp [World.cell?, h3]
  · simp [World.cell?, h3]
  · simp [World.frozen?, h3]

/-- The turn of a block that is no cells and lies behind Decode's own. -/
theorem decC_put {w : World} {s : ByteArray} {pre : List UInt8} {k : Nat} {W : World} (h : DecC w s pre k W) {l : Nat} {o : Obj} (o' : Obj) (hl : w.heap.size + 1 + 1 + 1 + 1 + 1 < l) (ho : W.heap[l]? = some o) (hc : o.isCells = false) : DecC w s pre k (W.putObj l o') := by
  obtain ⟨h1, h2, h3, h4, h5, h6, h7⟩ := h
  have key : ∀ j, j ≠ l → (W.putObj l o').heap[j]? = W.heap[j]? := fun j hj => World.putObj_heap_other hj
  refine ⟨(key _ (by omega)).trans h1, (key _ (by omega)).trans h2, (key _ (by omega)).trans h3, outBox_kept h4 (grownBy_putObj' W l o') (fun j ej _ => ?_), (key _ (by omega)).trans h5, (key _ (by omega)).trans h6, h7.grown (grownBy_putObj' W l o') (by have := (Array.getElem?_eq_some_iff.1 ho).1; omega) (fun k e => by cases e; omega)⟩
  have e : j = l := by simpa using ej.symm
  subst e
  refine ⟨by omega, fun c hcc => ?_⟩
  rw [ho] at hcc
  cases hcc
  simp [Obj.isCells] at hc

/-- One more byte appended to out, and stored. -/
theorem decC_app {w : World} {s : ByteArray} {pre : List UInt8} {k : Nat} {W w1 : World} {v v' : Value} {b : UInt8} {tmp : Obj} (h : DecC w s pre k W) (hv : Boxed W (w.heap.size + 1 + 1 + 1) 130 v) (hrow : W.ownsRow w.heap.size 5 1 v pre.length (u8s pre))
    (hown' : w1.ownsRow w.heap.size 5 1 v' (pre.length + 1) (u8s pre ++ [.int .u8 (b.toNat : Nat)])) (hgrow : (W.alloc tmp).grownBy w1 v.ownBlock) (hn : v' = .slice none 0 0 ∨ ∃ g cap, v' = .slice (some ⟨g, 0, none⟩) (pre.length + 1) cap) :
    DecC w s (pre ++ [b]) k (w1.setCell ⟨w.heap.size + 1 + 1 + 1, 0, none⟩ v') ∧ KeepsOthers W (w1.setCell ⟨w.heap.size + 1 + 1 + 1, 0, none⟩ v') := by
  have hlt := decC_lt h
  obtain ⟨h1, h2, h3, h4, h5, h6, h7⟩ := h
  obtain ⟨a1, a2, a3, a4, a5⟩ := hv.appended (by decide) hrow (by omega) (by omega) hown' hgrow
  have key : ∀ j c t, j ≠ w.heap.size + 1 + 1 + 1 → t ≠ 5 → W.heap[j]? = some (.cells c t (0, 0)) → (w1.setCell ⟨w.heap.size + 1 + 1 + 1, 0, none⟩ v').heap[j]? = some (.cells c t (0, 0)) := by
    intro j c t hj ht hW
    rw [Below.heap_setCell _ _ _ j hj, hgrow.block j (by have := (Array.getElem?_eq_some_iff.1 hW).1; simp; omega) (fun e => ?_), Below.heap_alloc _ _ _ (Array.getElem?_eq_some_iff.1 hW).1, hW]
    rcases hrow.2 with ⟨rfl, _⟩ | ⟨g, cap, cur, rfl, _, hgb, _⟩
    · simp [Value.ownBlock] at e
    · have e2 : j = g := by simpa [Value.ownBlock] using e
      subst e2
      rw [hW] at hgb
      have := Option.some.inj hgb
      simp at this
      exact ht this.2
  refine ⟨⟨key _ _ _ (by omega) (by decide) h1, key _ _ _ (by omega) (by decide) h2, key _ _ _ (by omega) (by decide) h3, ⟨v', a2, ?_, ?_⟩, key _ _ _ (by omega) (by decide) h5, a4.same _ _ h6 rfl, h7.trans a5⟩, a4⟩
  · rw [u8s_append, List.length_append]; exact a3
  · rw [List.length_append]; exact hn
end Go.Proofs.Ytegccicplcjcmaa
