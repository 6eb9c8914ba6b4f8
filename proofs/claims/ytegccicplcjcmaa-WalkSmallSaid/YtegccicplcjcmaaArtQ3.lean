/- Walks: Next of the reference model of a walk. -/
import Derived.Test.YtegccicplcjcmaaArtQ2
namespace Go.Proofs.Ytegccicplcjcmaa
open Go Go.RowKit Go.Shelf Go.Proofs
attribute [local go_sem] Oper.semAt_some

/-- The out-cells. -/
theorem outpair (w : World) (x : Value) : ∀ w', Below ((w.alloc (.cells #[x] 28)).alloc (.cells #[.string ⟨#[]⟩, .string ⟨#[]⟩] 48)).heap.size ((w.alloc (.cells #[x] 28)).alloc (.cells #[.string ⟨#[]⟩, .string ⟨#[]⟩] 48)) w' →
    w'.cell? ⟨w.heap.size + 1, 0, none⟩ = some (.string ⟨#[]⟩) ∧ w'.cell? ⟨w.heap.size + 1, 1, none⟩ = some (.string ⟨#[]⟩) ∧ (∀ j, w'.frozen? ⟨w.heap.size + 1, j, none⟩ = false) := by
  intro w' hb
  have e2 := World.alloc_heap_new (w.alloc (.cells #[x] 28)) (.cells #[.string ⟨#[]⟩, .string ⟨#[]⟩] 48)
  rw [World.size_alloc] at e2
  have e3 := (hb.block (w.heap.size + 1) (by simp)).trans e2
  refine ⟨?_, ?_, fun j => ?_⟩ <;> simp [World.cell?, World.frozen?, e3]

def refnextV (ps : PS) (s : ByteArray) : Value := match ps[posP ps s]? with
  | none => .tuple #[pairV (⟨#[]⟩, ⟨#[]⟩), .string s, .bool false]
  | some p => .tuple #[pairV p, .string (p.1 ++ ⟨#[0]⟩), .bool true]

set_option maxRecDepth 100000 in
set_option maxHeartbeats 4000000 in
theorem refnext_any (a : Option Addr) (len cap : Nat) (ps : PS) (w : World) (h : IsPairs w a len ps) (hl : len < 100000) (hs : SortedP ps) (s : ByteArray) :
    Calls Try.prog 16 #[.agg #[.slice a len cap], .string s] w fun e w' => e = .returned (refnextV ps s) ∧ Below w.heap.size w w' := by
  have hB2 : Below w.heap.size w ((w.alloc (.cells #[.slice a len cap] 28)).alloc (.cells #[.string ⟨#[]⟩, .string ⟨#[]⟩] 48)) := ((Below.refl w.heap.size w).alloc (Nat.le_refl _) _).alloc (by simp) _
  have HF := Lib.hid (reffrom_any a len cap ps _ (h.below hB2) hl hs s)
  unfold refnextV
  unfold reffromV at HF
  have hsm := h.2.1
  clear h
  cases hp : ps[posP ps s]? with
  | none =>
    rw [hp] at HF
    go_enter Try.func16, Try.ntmps16
    go_wp2_with (go_at_call 45; refine HF.out.mono ?_; rintro e w3 ⟨rfl, hn3⟩; obtain ⟨x0, x1, xf⟩ := outpair w (.slice a len cap) _ hn3)
    refine bodyPost_ret (v := .tuple #[pairV (⟨#[]⟩, ⟨#[]⟩), .string s, .bool false]) ?_ rfl ⟨rfl, ?_⟩
    · unfold pairV
      simp [results, Try.f16, go_sem, x0, x1]
    · exact (hB2.trans (hn3.mono hB2.size)).setCell (p := ⟨w.heap.size + 1, 0, none⟩) (by simp) _ |>.setCell (p := ⟨w.heap.size + 1, 1, none⟩) (by simp) _
  | some p =>
    rw [hp] at HF
    have hz := (hsm p (List.mem_of_getElem? hp)).1
    obtain ⟨p1, p2⟩ := p
    simp only at HF hz ⊢
    have hz2 : p1.size + 1 ≤ 281474976710656 := by omega
    have hz3 : p1.size ≤ 281474976710656 := by omega
    clear hp hsm
    go_enter Try.func16, Try.ntmps16
    go_wp2_with (go_at_call 45; refine HF.out.mono ?_; rintro e w3 ⟨rfl, hn3⟩; obtain ⟨x0, x1, xf⟩ := outpair w (.slice a len cap) _ hn3)
    refine bodyPost_ret (v := .tuple #[pairV (p1, p2), .string (p1 ++ ⟨#[0]⟩), .bool true]) ?_ rfl ⟨rfl, ?_⟩
    · unfold pairV
      simp [results, Try.f16, go_sem, x0, x1]
    · exact (hB2.trans (hn3.mono hB2.size)).setCell (p := ⟨w.heap.size + 1, 0, none⟩) (by simp) _ |>.setCell (p := ⟨w.heap.size + 1, 1, none⟩) (by simp) _

end Go.Proofs.Ytegccicplcjcmaa
