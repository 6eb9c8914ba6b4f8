/- Walks: the marks of the statements' own kit: texts and pairs. -/
import Derived.Test.YtgfhaldfjnepmaaBk18
import Derived.Test.YtgfhaldfjnepmaaBkApp
import Derived.Test.YtgfhaldfjnepmaaKit1
namespace Go.Proofs.Ytgfhaldfjnepmaa
open Go Go.RowKit Go.Shelf Go.Proofs
attribute [local go_sem] Oper.semAt_some

/-- The mark of a place in a list, as a text. -/
def mkt (k n : Nat) : ByteArray :=
  { data := #[35, UInt8.ofNat ((k : Int) % 256).toNat, UInt8.ofNat ((k : Int) / 256 % 256).toNat, UInt8.ofNat ((k : Int) / 65536 % 256).toNat, 47, UInt8.ofNat ((n : Int) % 256).toNat, UInt8.ofNat ((n : Int) / 256 % 256).toNat, UInt8.ofNat ((n : Int) / 65536 % 256).toNat] }

theorem results_cell1 {fn : Func} {p : Tmp} {ty : TypeId} (h : fn.results = #[.cell p ty]) (tmps : Array Value) (P : Program) (w : World) :
    (results fn tmps).run P w = ((asAddr (tmps.getD p undef)).run P w).andThen fun a w₁ => (loadVar ty a).run P w₁ := by
  simp only [results, h]
  simp [Sem.run_bind, Result.andThen]

set_option linter.unusedVariables false in
set_option maxRecDepth 100000 in
theorem marktext_all (k n : Nat) (w : World) (hk2 : k < 100000000) (h2 : n < 100000000) :
    Calls Try.prog 49 #[.int .i64 k, .int .i64 n] w fun e w' => e = .returned (.string (mkt k n)) ∧ Below w.heap.size w w' := by
  have hcv := fun a b c d f g h i W cc => conv8 (P := Try.prog) 74 9 5 Try.underlying74 Try.underlying5 Try.underlying9 a b c d f g h i W cc
  go_enter Try.func49, Try.ntmps49
  go_wp2
  go_ret
  exact ⟨rfl, (Below.refl _ _).alloc (Nat.le_refl _) _⟩

set_option maxRecDepth 100000 in
theorem markpair_all (k n : Nat) (w : World) (hk2 : k < 100000000) (h2 : n < 100000000) :
    Calls Try.prog 120 #[.int .i64 k, .int .i64 n] w fun e w' => e = .returned (.agg #[.string (mkt k n), .string ⟨#[]⟩]) ∧ Below w.heap.size w w' := by
  have HM := Lib.hid (fun W => marktext_all k n W hk2 h2)
  have HB := Lib.hid ((Below.refl w.heap.size w).alloc (Nat.le_refl _) (.cells #[.string ⟨#[]⟩, .string ⟨#[]⟩] 57))
  have HC := Lib.hid (fun w' (hb : Below (w.heap.size + 1) (w.alloc (.cells #[.string ⟨#[]⟩, .string ⟨#[]⟩] 57)) w') => show (w'.cell? ⟨w.heap.size, 0, none⟩ = some (.string ⟨#[]⟩) ∧ w'.cell? ⟨w.heap.size, 1, none⟩ = some (.string ⟨#[]⟩)) ∧ ∀ j, w'.frozen? ⟨w.heap.size, j, none⟩ = false by
    have e := (hb.block w.heap.size (by omega)).trans (World.alloc_heap_new w (.cells #[.string ⟨#[]⟩, .string ⟨#[]⟩] 57))
    refine ⟨⟨?_, ?_⟩, fun j => ?_⟩ <;> simp [World.cell?, World.frozen?, e])
  go_enter Try.func120, Try.ntmps120
  go_wp2_with (go_at_call 49; refine (HM.out _).mono ?_; rintro e w3 ⟨rfl, hn3⟩; rw [World.size_alloc] at hn3; obtain ⟨⟨c0, c1⟩, f0⟩ := HC.out _ hn3)
  refine bodyPost_ret (v := .agg #[.string (mkt k n), .string ⟨#[]⟩]) ?_ rfl ⟨rfl, (HB.out.trans (hn3.mono (by omega))).setCell (p := ⟨w.heap.size, 0, none⟩) (Nat.le_refl _) _ |>.setCell (p := ⟨w.heap.size, 1, none⟩) (Nat.le_refl _) _⟩
  rw [results_cell1 rfl]
  go_simp

end Go.Proofs.Ytgfhaldfjnepmaa
