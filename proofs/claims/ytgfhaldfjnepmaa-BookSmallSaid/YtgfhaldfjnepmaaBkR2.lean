/- Walks: the reading methods of the reference model of a book. -/
import Derived.Test.YtgfhaldfjnepmaaBkR1
import Derived.Test.YtgfhaldfjnepmaaLessR04
import Derived.Test.YtgfhaldfjnepmaaBk24
namespace Go.Proofs.Ytgfhaldfjnepmaa
open Go Go.RowKit Go.Shelf Go.Proofs
attribute [local go_sem] Oper.semAt_some

theorem refless_val (a b : ByteArray) (w : World) (ha : a.size ≤ 281474976710656) {r : Bool} (hr : klt a b = r) :
    Calls Try.prog 89 #[.string a, .string b] w fun e w' => e = .returned (.bool r) ∧ Below w.heap.size w w' := by
  subst hr
  exact refless04_any a b w ha

/-- The cells of a reference model that came in by value. -/
theorem refbox (w : World) (x y z : Value) : ∀ w', Below (w.heap.size + 1) (w.alloc (.cells #[x, y, z] 62)) w' → w'.cell? ⟨w.heap.size, 0, none⟩ = some x ∧ w'.cell? ⟨w.heap.size, 1, none⟩ = some y ∧ w'.cell? ⟨w.heap.size, 2, none⟩ = some z := by
  intro w' hb
  have e := (hb.block w.heap.size (by omega)).trans (World.alloc_heap_new w (.cells #[x, y, z] 62))
  refine ⟨?_, ?_, ?_⟩ <;> simp [World.cell?, e]

set_option maxRecDepth 100000 in
set_option maxHeartbeats 4000000 in
theorem refat_any (a : Option Addr) (len cap K M : Nat) (ps : PS) (w : World) (h : IsPairs w a len ps) (hl : len < 100000) (hs : SortedP ps) (s : ByteArray) :
    Calls Try.prog 70 #[.agg #[.slice a len cap, .int .u64 K, .int .u64 M], .string s] w fun e w' => e = .returned (.int .i64 (posP ps s)) ∧ Below w.heap.size w w' := by
  obtain ⟨w1, hw1⟩ : ∃ w1, w1 = w.alloc (.cells #[.slice a len cap, .int .u64 K, .int .u64 M] 62) := ⟨_, rfl⟩
  have hB1 : Below w.heap.size w w1 := by rw [hw1]; exact (Below.refl _ _).alloc (Nat.le_refl _) _
  have hs1 : w1.heap.size = w.heap.size + 1 := by rw [hw1]; simp
  have HC := Lib.hid (refbox w (.slice a len cap) (.int .u64 K) (.int .u64 M))
  rw [← hw1, ← hs1] at HC
  have HP := Lib.hid (h.below hB1)
  have hpl := posP_le ps s
  have hlen := h.1
  have HX := Lib.hid (fun t p (hp : ps[t]? = some p) => less_at hs s hp)
  have hB0 := Below.refl w1.heap.size w1
  generalize posP ps s = N at hpl HX ⊢
  clear h
  go_enter Try.func70, Try.ntmps70
  go_wp2
  rw [← hw1]
  clear hw1
  go_loopw [5] (fun i wr => ∃ k : Nat, k ≤ N ∧ i = .int .i64 k ∧ Below w1.heap.size w1 wr) (fun i _ => N - (intOf i).toNat)
  case atStart => exact ⟨0, Nat.zero_le _, rfl, hB0⟩
  case round =>
    obtain ⟨k, hk, rfl, hB⟩ := hrel
    clear hB0
    obtain ⟨c0, c1, c2⟩ := HC.out _ hB
    by_cases hk2 : k < len
    · obtain ⟨p, hpk⟩ : ∃ p, ps[k]? = some p := ⟨_, List.getElem?_eq_getElem (by omega)⟩
      obtain ⟨g, off, rfl, hg, hc⟩ := (HP.out.below hB).2.2.resolve_left (by omega)
      obtain ⟨e1, e2⟩ := hc k p hpk
      have hz := (HP.out.2.1 p (List.mem_of_getElem? hpk)).1
      have hX := HX.out k p hpk
      obtain ⟨p1, p2⟩ := p
      simp only at e1 e2 hz hX
      clear hpk hc
      by_cases hkN : k < N
      · have HL := Lib.hid (fun W => refless_val p1 s W (by omega) (hX.1 hkN))
        clear hX
        go_wp2_with (go_at_call 89; refine (HL.out _).mono ?_; rintro e w3 ⟨rfl, hn3⟩)
        go_roundw
        case rel => exact ⟨k + 1, by omega, by go_num, hB.trans (hn3.mono hB.size)⟩
        case measure => simp [intOf]; omega
      · obtain rfl : k = N := by omega
        have HL := Lib.hid (fun W => refless_val p1 s W (by omega) (hX.2 (Nat.le_refl _)))
        clear hX
        go_wp2_with (go_at_call 89; refine (HL.out _).mono ?_; rintro e w3 ⟨rfl, hn3⟩)
        go_ret
        exact ⟨rfl, hB1.trans ((hB.trans (hn3.mono hB.size)).mono (by omega))⟩
    · obtain rfl : k = N := by omega
      go_wp2
      go_ret
      exact ⟨rfl, hB1.trans (hB.mono (by omega))⟩

end Go.Proofs.Ytgfhaldfjnepmaa
