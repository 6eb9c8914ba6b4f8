/- Walks: Nth of the reference model of a walk. -/
import Derived.Test.YtegccicplcjcmaaArtR4
import Derived.Test.YtegccicplcjcmaaWkP
/- Walks: in of the reference model of a walk. -/
namespace Go.Proofs.Ytegccicplcjcmaa
open Go Go.RowKit Go.Shelf Go.Proofs
attribute [local go_sem] Oper.semAt_some

set_option maxRecDepth 100000 in
set_option maxHeartbeats 4000000 in
theorem in_any (s f t : ByteArray) (w : World) (hs : s.size ≤ 281474976710656) :
    Calls Try.prog 56 #[.string s, .string f, .string t] w fun e w' => e = .returned (.bool (inB s f t)) ∧ Below w.heap.size w w' := by
  unfold inB
  rw [← strEq]
  have hB0 := Below.refl w.heap.size w
  cases h1 : klt s f with
  | true =>
    have HL := Lib.hid (fun W => refless_val s f W hs h1)
    go_enter Try.func56, Try.ntmps56
    go_wp2_with (go_at_call 52; refine (HL.out _).mono ?_; rintro e w3 ⟨rfl, hn3⟩)
    go_ret
    exact ⟨by simp, hn3⟩
  | false =>
    have HL := Lib.hid (fun W => refless_val s f W hs h1)
    by_cases h2 : t.toList == ([] : List UInt8)
    · go_enter Try.func56, Try.ntmps56
      go_wp2_with (go_at_call 52; refine (HL.out _).mono ?_; rintro e w3 ⟨rfl, hn3⟩)
      go_ret
      exact ⟨ret_bool (by simpa using Or.inl (by simpa using h2)), hn3⟩
    · cases h3 : klt s t with
      | _ =>
        have HL2 := Lib.hid (fun W => refless_val s t W hs h3)
        clear h1 h3
        have h4 : (t.toList == ([] : List UInt8)) = false := by simpa using h2
        go_enter Try.func56, Try.ntmps56
        go_wp2_with (first
          | (go_at_call 52; refine (HL.out _).mono ?_; clear HL; rintro e w3 ⟨rfl, hn3⟩)
          | (go_at_call 52; refine (HL2.out _).mono ?_; rintro e w4 ⟨rfl, hn4⟩))
        go_ret
        exact ⟨by simp_all, below_chain hn3 hn4⟩

end Go.Proofs.Ytegccicplcjcmaa

namespace Go.Proofs.Ytegccicplcjcmaa
open Go Go.RowKit Go.Shelf Go.Proofs
attribute [local go_sem] Oper.semAt_some

def pairV (p : ByteArray × ByteArray) : Value := .agg #[.string p.1, .string p.2]
def refnthV (ps : PS) (n : Int) : Value := if n < 0 then .tuple #[pairV (⟨#[]⟩, ⟨#[]⟩), .bool false] else match ps[n.toNat]? with
  | none => .tuple #[pairV (⟨#[]⟩, ⟨#[]⟩), .bool false]
  | some p => .tuple #[pairV p, .bool true]

set_option maxRecDepth 100000 in
set_option maxHeartbeats 4000000 in
theorem refnth_any (a : Option Addr) (len cap : Nat) (ps : PS) (w : World) (h : IsPairs w a len ps) (hl : len < 100000) (n : Int) :
    Calls Try.prog 37 #[.agg #[.slice a len cap], .int .i64 n] w fun e w' => e = .returned (refnthV ps n) ∧ Below w.heap.size w w' := by
  unfold refnthV
  by_cases h1 : n < 0
  · rw [if_pos h1]
    go_enter Try.func37, Try.ntmps37
    go_wp2
    refine bodyPost_ret (v := .tuple #[pairV (⟨#[]⟩, ⟨#[]⟩), .bool false]) ?_ rfl ⟨rfl, ?_⟩
    · unfold pairV
      rw [results_cell_tmp rfl]
      go_simp
    · exact ((Below.refl w.heap.size w).alloc (Nat.le_refl _) _).alloc (by simp) _
  · rw [if_neg h1]
    have hlen := h.1
    by_cases h2 : n < (len : Int)
    · obtain ⟨k, rfl⟩ : ∃ k : Nat, n = k := ⟨n.toNat, by omega⟩
      obtain ⟨p, hp⟩ : ∃ p, ps[k]? = some p := ⟨_, List.getElem?_eq_getElem (by omega)⟩
      rw [show (k : Int).toNat = k from rfl, hp]
      have hB2 : Below w.heap.size w ((w.alloc (.cells #[.slice a len cap] 28)).alloc (.cells #[.string ⟨#[]⟩, .string ⟨#[]⟩] 48)) := ((Below.refl w.heap.size w).alloc (Nat.le_refl _) _).alloc (by simp) _
      obtain ⟨g, off, rfl, hg, hc⟩ := (h.below hB2).2.2.resolve_left (by omega)
      obtain ⟨c1, c2⟩ := hc k p hp
      obtain ⟨p1, p2⟩ := p
      simp only at c1 c2
      go_enter Try.func37, Try.ntmps37
      go_wp2
      refine bodyPost_ret (v := .tuple #[pairV (p1, p2), .bool true]) ?_ rfl ⟨rfl, ?_⟩
      · unfold pairV
        rw [results_cell_tmp rfl]
        go_simp
      · exact ((Below.refl w.heap.size w).alloc (Nat.le_refl _) _).alloc (by simp) _
    · rw [List.getElem?_eq_none (by omega)]
      have h3 : (len : Int) ≤ n := by omega
      go_enter Try.func37, Try.ntmps37
      go_wp2
      refine bodyPost_ret (v := .tuple #[pairV (⟨#[]⟩, ⟨#[]⟩), .bool false]) ?_ rfl ⟨rfl, ?_⟩
      · unfold pairV
        rw [results_cell_tmp rfl]
        go_simp
      · exact ((Below.refl w.heap.size w).alloc (Nat.le_refl _) _).alloc (by simp) _

end Go.Proofs.Ytegccicplcjcmaa

