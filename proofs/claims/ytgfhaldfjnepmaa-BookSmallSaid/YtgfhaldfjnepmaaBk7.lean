/- Walks: may an operation go on; where a key lies; what lies there; sizes. -/
import Derived.Test.YtgfhaldfjnepmaaBk6
import Derived.Test.YtgfhaldfjnepmaaBlk
namespace Go.Proofs.Ytgfhaldfjnepmaa
open Go Go.RowKit Go.Shelf Go.Proofs
attribute [local go_sem] Oper.semAt_some

def mayE (s : ByteArray) (ss : List ByteArray) : Int := if shortB 16 [s] = true ∧ shortB 32 ss = true then 0 else 2

set_option maxRecDepth 100000 in
set_option maxHeartbeats 1000000 in
theorem may_any {B b m : Nat} {v : Value} {K M : Nat} {ps : PS} (w : World) (h : BookAt w B b m v K M ps) (s : ByteArray) (a : Option Addr) (len cap : Nat) (ss : List ByteArray) (hz : s.size ≤ 1000) (hs : IsStrs w a len cap ss) (hl : len ≤ 1000) :
    Calls Try.prog 62 #[.pointer (some ⟨b, 0, none⟩), .string s, .slice a len cap] w fun e w' => e = .returned (.int .i64 (mayE s ss)) ∧ Below w.heap.size w w' := by
  have HN := Lib.hid (none_any w h)
  have H1 := Lib.hid (fun o (ho : o = Obj.cells #[.string s] 9) => short_any 16 (some ⟨w.heap.size, 0, none⟩) 1 1 [s] (w.alloc o) (isstrs1 (by subst ho; exact hasB_new rfl) hz) (by omega))
  have H2 := Lib.hid (fun w' (hb : Below w.heap.size w w') => short_any 32 a len cap ss w' (hs.below hb (Nat.le_refl _)) hl)
  clear h hs
  unfold mayE
  by_cases c1 : shortB 16 [s] = true
  · rw [c1] at H1
    by_cases c2 : shortB 32 ss = true
    · rw [c2] at H2
      rw [if_pos ⟨c1, c2⟩]
      go_enter Try.func62, Try.ntmps62
      go_wp2_with (first
        | (go_at_call 61; refine HN.out.mono ?_; rintro e w' ⟨rfl, rfl⟩)
        | (go_at_call 85; first
          | (refine (H1.out _ rfl).mono ?_; rintro e w' ⟨rfl, hn⟩; have hB := (Below.refl _ _).alloc (Nat.le_refl _) (Obj.cells #[.string s] 9) |>.trans (hn.mono (by simp)))
          | (refine (H2.out _ hB).mono ?_; rintro e w' ⟨rfl, hn2⟩; have hB2 := below_chain hB hn2)))
      go_ret
      exact ⟨rfl, hB2⟩
    · rw [Bool.not_eq_true] at c2
      rw [c2] at H2
      rw [if_neg (by simp [c2])]
      go_enter Try.func62, Try.ntmps62
      go_wp2_with (first
        | (go_at_call 61; refine HN.out.mono ?_; rintro e w' ⟨rfl, rfl⟩)
        | (go_at_call 85; first
          | (refine (H1.out _ rfl).mono ?_; rintro e w' ⟨rfl, hn⟩; have hB := (Below.refl _ _).alloc (Nat.le_refl _) (Obj.cells #[.string s] 9) |>.trans (hn.mono (by simp)))
          | (refine (H2.out _ hB).mono ?_; rintro e w' ⟨rfl, hn2⟩; have hB2 := below_chain hB hn2)))
      go_ret
      exact ⟨rfl, hB2⟩
  · rw [Bool.not_eq_true] at c1
    rw [c1] at H1
    rw [if_neg (by simp [c1])]
    go_enter Try.func62, Try.ntmps62
    go_wp2_with (first
      | (go_at_call 61; refine HN.out.mono ?_; rintro e w' ⟨rfl, rfl⟩)
      | (go_at_call 85;
         (refine (H1.out _ rfl).mono ?_; rintro e w' ⟨rfl, hn⟩; have hB := (Below.refl _ _).alloc (Nat.le_refl _) (Obj.cells #[.string s] 9) |>.trans (hn.mono (by simp)))))
    go_ret
    exact ⟨rfl, hB⟩

set_option maxRecDepth 100000 in
theorem find_any {B b m : Nat} {v : Value} {K M : Nat} {ps : PS} (w : World) (h : BookAt w B b m v K M ps) (hn : ps.length < 100000) (s : ByteArray) :
    Calls Try.prog 63 #[.pointer (some ⟨b, 0, none⟩), .string s] w fun e w' => e = .returned (.tuple #[.int .i64 (posP ps s : Nat), .bool (getP ps s).isSome]) ∧ Below w.heap.size w w' := by
  have h1 := h.cell.1
  have HF := Lib.hid (search_any B v ps s w h.row h.sorted hn)
  clear h
  go_enter Try.func63, Try.ntmps63
  go_wp2_with (go_at_call 86; refine HF.out.mono ?_; rintro e w' ⟨rfl, hn⟩)
  go_ret2
  exact ⟨rfl, hn⟩

theorem bytesAt_conv {w : World} {x : Value} {s : ByteArray} (h : BytesAt w x s) : (convert 74 9 x).run Try.prog w = .ok (.string s) w := by
  obtain ⟨a, cap, cur, fz, rfl, h1, h2⟩ := h
  have := run_convert_bytes_back (P := Try.prog) w 74 9 5 ⟨a, 0, none⟩ cap s.data.toList Try.underlying74 Try.underlying5 Try.underlying9 (fun j hj => by
    rw [Addr.add_lit, Nat.zero_add, cell_of_row w a j cur 5 fz h1]
    exact h2 j hj)
  rw [show s.data.toList.length = s.size from by simp] at this
  rw [this]

theorem bytesAt_shape {w : World} {x : Value} {s : ByteArray} (h : BytesAt w x s) : ∃ a cap, x = .slice (some ⟨a, 0, none⟩) s.size cap := by
  obtain ⟨a, cap, cur, fz, rfl, h1, h2⟩ := h
  exact ⟨a, cap, rfl⟩

/-- Looking a key up in the map of the book. -/
theorem look_none {B b m : Nat} {v : Value} {K M : Nat} {ps : PS} {w : World} (h : BookAt w B b m v K M ps) {s : ByteArray} (hs : s.size ≤ 1000) (hg : getP ps s = none) :
    (Instr.lookup 91 (.map (some m)) (.string s) true).run Try.prog w = .ok (.tuple #[.slice none 0 0, .bool false]) w := by
  obtain ⟨f, hf, hx⟩ := h.map
  rw [hf.look Try.underlying91 (Try.zeroValue74 w) hs, (hx s hs).1 hg]
  rfl

theorem look_some {B b m : Nat} {v : Value} {K M : Nat} {ps : PS} {w : World} (h : BookAt w B b m v K M ps) {s u : ByteArray} (hs : s.size ≤ 1000) (hg : getP ps s = some u) :
    ∃ x, BytesAt w x u ∧ (Instr.lookup 91 (.map (some m)) (.string s) true).run Try.prog w = .ok (.tuple #[x, .bool true]) w ∧ (Instr.lookup 91 (.map (some m)) (.string s) false).run Try.prog w = .ok x w := by
  obtain ⟨f, hf, hx⟩ := h.map
  obtain ⟨x, e, hb⟩ := (hx s hs).2 u hg
  refine ⟨x, hb, ?_, ?_⟩
  · rw [hf.look Try.underlying91 (Try.zeroValue74 w) hs, e]; rfl
  · rw [hf.look1 Try.underlying91 (Try.zeroValue74 w) hs, e]; rfl

end Go.Proofs.Ytgfhaldfjnepmaa
