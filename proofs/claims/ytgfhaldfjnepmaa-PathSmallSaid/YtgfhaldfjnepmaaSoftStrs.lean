/- Soft slots that hold slices of strings of their own. -/
import Derived.Test.YtgfhaldfjnepmaaSoftStep
import Derived.Test.YtgfhaldfjnepmaaBlk
namespace Go.Proofs.Ytgfhaldfjnepmaa.Soft
open Go Go.RowKit Go.Proofs Go.Sort

def SoftStr (n : Nat) (xs : List ByteArray) (v : Value) (w : World) : Prop := ∃ g, v = .slice (some ⟨g, 0, none⟩) n n ∧ IsStrs w (some ⟨g, 0, none⟩) n n xs

def Gs : List (Tmp × Nat × List ByteArray) → Tmp → Value → World → Prop
  | [], _, _, _ => True
  | (t0, n, xs) :: l, t, v, w => (t0 = t → SoftStr n xs v w) ∧ Gs l t v w

theorem gs_stable : ∀ (l : List (Tmp × Nat × List ByteArray)) (t : Tmp) (v : Value) (w w' : World), Gs l t v w → Below w.heap.size w w' → Gs l t v w'
  | [], _, _, _, _, _, _ => trivial
  | (t0, n, xs) :: l, t, v, w, w', h, hb => ⟨fun e => by
      obtain ⟨g, e1, h1⟩ := h.1 e
      exact ⟨g, e1, h1.below hb (Nat.le_refl _)⟩, gs_stable l t v w w' h.2 hb⟩

theorem run_build1 (x : ByteArray) (w : World) : (Instr.buildSlice 22 1 [(0, Value.string x)].toArray).run Try.prog w = .ok (.slice (some ⟨w.heap.size, 0, none⟩) 1 1) (w.alloc (.cells #[.string x] 9)) := by
  simp [go_sem]
theorem run_build2 (x y : ByteArray) (w : World) : (Instr.buildSlice 22 2 [(0, Value.string x), (1, .string y)].toArray).run Try.prog w = .ok (.slice (some ⟨w.heap.size, 0, none⟩) 2 2) (w.alloc (.cells #[.string x, .string y] 9)) := by
  simp [go_sem]
theorem run_build3 (x y z : ByteArray) (w : World) : (Instr.buildSlice 22 3 [(0, Value.string x), (1, .string y), (2, .string z)].toArray).run Try.prog w = .ok (.slice (some ⟨w.heap.size, 0, none⟩) 3 3) (w.alloc (.cells #[.string x, .string y, .string z] 9)) := by
  simp [go_sem]

theorem soft1 (x : ByteArray) (w : World) (hx : x.size ≤ 1000) : SoftStr 1 [x] (.slice (some ⟨w.heap.size, 0, none⟩) 1 1) (w.alloc (.cells #[.string x] 9)) := ⟨_, rfl, isstrs1 (hasB_new rfl) hx⟩
theorem soft2 (x y : ByteArray) (w : World) (hx : x.size ≤ 1000) (hy : y.size ≤ 1000) : SoftStr 2 [x, y] (.slice (some ⟨w.heap.size, 0, none⟩) 2 2) (w.alloc (.cells #[.string x, .string y] 9)) := ⟨_, rfl, isstrs2 (hasB_new rfl) hx hy⟩
theorem soft3 (x y z : ByteArray) (w : World) (hx : x.size ≤ 1000) (hy : y.size ≤ 1000) (hz : z.size ≤ 1000) : SoftStr 3 [x, y, z] (.slice (some ⟨w.heap.size, 0, none⟩) 3 3) (w.alloc (.cells #[.string x, .string y, .string z] 9)) := ⟨_, rfl, isstrs3 (hasB_new rfl) hx hy hz⟩
end Go.Proofs.Ytgfhaldfjnepmaa.Soft
