/- Blocks of texts that a drawn region lays: where they still lie. -/
import Derived.Test.YtgfhaldfjnepmaaKit1
namespace Go.Proofs.Ytgfhaldfjnepmaa
open Go Go.RowKit Go.Shelf Go.Proofs

/-- Block B holds o. -/
def HasB (W : World) (B : Nat) (o : Obj) : Prop := W.heap[B]? = some o
/-- W comes behind X, and has kept whatever lay there. -/
structure Nx (X W : World) : Prop where
  below : Below X.heap.size X W

theorem hasB_new {X : World} {B : Nat} {o : Obj} (h : B = X.heap.size) : HasB (X.alloc o) B o := by subst h; exact World.alloc_heap_new _ _
theorem hasB_alloc {X : World} {B : Nat} {o : Obj} (o' : Obj) (h : HasB X B o) : HasB (X.alloc o') B o := (Below.heap_alloc _ _ _ (Array.getElem?_eq_some_iff.1 h).1).trans h
theorem hasB_drew {X : World} {B : Nat} {o : Obj} (h : HasB X B o) : HasB X.drew B o := h
theorem hasB_nx {X W : World} {B : Nat} {o : Obj} (n : Nx X W) (h : HasB X B o) : HasB W B o := (n.below.block _ (Array.getElem?_eq_some_iff.1 h).1).trans h

theorem isstrs1 {W : World} {B : Nat} {x : ByteArray} (h : HasB W B (.cells #[.string x] 9)) (hx : x.size ≤ 1000) : IsStrs W (some ⟨B, 0, none⟩) 1 1 [x] := by
  refine ⟨rfl, Nat.le_refl _, by omega, by simp; omega, .inr ⟨B, 0, rfl, (Array.getElem?_eq_some_iff.1 h).1, fun j hj => ?_⟩⟩
  have e : W.heap[B]? = _ := h
  rcases j with _ | j
  · simp [World.cell?, e]
  · omega
theorem isstrs2 {W : World} {B : Nat} {x y : ByteArray} (h : HasB W B (.cells #[.string x, .string y] 9)) (hx : x.size ≤ 1000) (hy : y.size ≤ 1000) : IsStrs W (some ⟨B, 0, none⟩) 2 2 [x, y] := by
  refine ⟨rfl, Nat.le_refl _, by omega, by simp; omega, .inr ⟨B, 0, rfl, (Array.getElem?_eq_some_iff.1 h).1, fun j hj => ?_⟩⟩
  have e : W.heap[B]? = _ := h
  rcases j with _ | _ | j
  · simp [World.cell?, e]
  · simp [World.cell?, e]
  · omega
theorem isstrs3 {W : World} {B : Nat} {x y z : ByteArray} (h : HasB W B (.cells #[.string x, .string y, .string z] 9)) (hx : x.size ≤ 1000) (hy : y.size ≤ 1000) (hz : z.size ≤ 1000) : IsStrs W (some ⟨B, 0, none⟩) 3 3 [x, y, z] := by
  refine ⟨rfl, Nat.le_refl _, by omega, by simp; omega, .inr ⟨B, 0, rfl, (Array.getElem?_eq_some_iff.1 h).1, fun j hj => ?_⟩⟩
  have e : W.heap[B]? = _ := h
  rcases j with _ | _ | _ | j
  · simp [World.cell?, e]
  · simp [World.cell?, e]
  · simp [World.cell?, e]
  · omega

/-- Whatever lay in a world lies on. -/
theorem nx_alloc {B0 W : World} (o : Obj) (h : Below B0.heap.size B0 W) : Below B0.heap.size B0 (W.alloc o) := h.alloc h.size o
theorem nx_drew {B0 W : World} (h : Below B0.heap.size B0 W) : Below B0.heap.size B0 W.drew := h.drew
theorem nx_call {B0 X W : World} (n : Nx X W) (h : Below B0.heap.size B0 X) : Below B0.heap.size B0 W := h.trans (n.below.mono h.size)
theorem keep3 {wr w' : World} {p q r : Addr} {a b c : Value} (h1 : wr.cell? p = some a) (h2 : wr.cell? q = some b) (h3 : wr.cell? r = some c) (hb : Below wr.heap.size wr w') : w'.cell? p = some a ∧ w'.cell? q = some b ∧ w'.cell? r = some c ∧ Below wr.heap.size wr w' :=
  ⟨(hb.cell (block_lt_of_cell h1)).trans h1, (hb.cell (block_lt_of_cell h2)).trans h2, (hb.cell (block_lt_of_cell h3)).trans h3, hb⟩
end Go.Proofs.Ytgfhaldfjnepmaa
