/- Walks: All and its iterator. -/
import Derived.Test.YtegccicplcjcmaaGreatArt8
import Derived.Test.YtegccicplcjcmaaGreatRangeOwn
namespace Go.Proofs.YtegccicplcjcmaaGreat
open Go Go.RowKit Go.Shelf Go.Proofs Go.Sort
attribute [local go_sem] Oper.semAt_some

/-- What a round leaves alone: the iterator's own copy. -/
structure Stay (N0 N1 : Nat) (W W' : World) : Prop where
  size : W.heap.size ≤ W'.heap.size
  own : ∀ g, N0 ≤ g → g < N1 → W'.heap[g]? = W.heap[g]?

theorem Stay.refl (N0 N1 : Nat) (W : World) : Stay N0 N1 W W := ⟨Nat.le_refl _, fun _ _ _ => rfl⟩
theorem Stay.trans {N0 N1 : Nat} {A B C : World} (h : Stay N0 N1 A B) (k : Stay N0 N1 B C) : Stay N0 N1 A C :=
  ⟨Nat.le_trans h.size k.size, fun g a b => (k.own g a b).trans (h.own g a b)⟩

/-- The copy is less than N1 all along. -/
def Under (N0 N1 b m : Nat) (v : Value) : Prop := N0 ≤ b ∧ b < N1 ∧ N0 ≤ m ∧ m < N1 ∧ ∀ k, v.ownBlock = some k → N0 ≤ k ∧ k < N1

theorem art_under {B b m : Nat} {v : Value} {ps : PS} {W : World} (h : ArtAt W B b m v ps) : Under B W.heap.size b m v :=
  ⟨h.hb, h.lt.1, h.hm, h.lt.2, fun k hk => h.row.lt k hk⟩

theorem art_stay {N0 N1 B b m : Nat} {v : Value} {ps : PS} {W W' : World} (h : ArtAt W B b m v ps) (hu : Under N0 N1 b m v) (hs : Stay N0 N1 W W') : ArtAt W' B b m v ps :=
  h.stay (hs.own _ hu.1 hu.2.1) (hs.own _ hu.2.2.1 hu.2.2.2.1) (fun k hk => hs.own _ (hu.2.2.2.2 k hk).1 (hu.2.2.2.2 k hk).2)

theorem keysP_get {ps : PS} {k : Nat} (hk : k < ps.length) : (keysP ps).getD k ByteArray.empty = (ps[k]).1 := by
  simp [keysP, List.getD, hk]

end Go.Proofs.YtegccicplcjcmaaGreat
