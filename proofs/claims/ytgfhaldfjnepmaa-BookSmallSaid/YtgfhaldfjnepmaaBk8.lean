/- Walks: there, Get, size, Keys, Bytes. -/
import Derived.Test.YtgfhaldfjnepmaaBk7
namespace Go.Proofs.Ytgfhaldfjnepmaa
open Go Go.RowKit Go.Shelf Go.Proofs
attribute [local go_sem] Oper.semAt_some

/-- What 'there' answers. -/
def thereE (ps : PS) (s : ByteArray) (ss : List ByteArray) : Int := if mayE s ss = 0 then (match getP ps s with | none => 5 | some _ => 0) else mayE s ss
def thereV (ps : PS) (s : ByteArray) (ss : List ByteArray) : ByteArray := if mayE s ss = 0 then (getP ps s).getD ⟨#[]⟩ else ⟨#[]⟩

theorem mayE_or (s : ByteArray) (ss : List ByteArray) : mayE s ss = 0 ∨ mayE s ss = 2 := by unfold mayE; split <;> simp

set_option maxRecDepth 100000 in
set_option maxHeartbeats 1000000 in
theorem there_any {B b m : Nat} {v : Value} {K M : Nat} {ps : PS} (w : World) (h : BookAt w B b m v K M ps) (s : ByteArray) (a : Option Addr) (len cap : Nat) (ss : List ByteArray) (hz : s.size ≤ 1000) (hs : IsStrs w a len cap ss) (hl : len ≤ 1000) :
    Calls Try.prog 76 #[.pointer (some ⟨b, 0, none⟩), .string s, .slice a len cap] w fun e w' => e = .returned (.tuple #[.string (thereV ps s ss), .int .i64 (thereE ps s ss)]) ∧ Below w.heap.size w w' := by
  have HM := Lib.hid (may_any w h s a len cap ss hz hs hl)
  unfold thereE thereV
  rcases mayE_or s ss with e0 | e2
  · rw [e0] at HM ⊢
    simp only [if_true]
    have HB := Lib.hid (fun w' (hb : Below w.heap.size w w') => h.below hb)
    cases hg : getP ps s with
    | none =>
      have HL := Lib.hid (fun w' (hb : Below w.heap.size w w') => And.intro (h.below hb).cell.2.1 (look_none (h.below hb) hz hg))
      clear h hs
      go_enter Try.func76, Try.ntmps76
      go_wp2_with (go_at_call 62; refine HM.out.mono ?_; rintro e w' ⟨rfl, hn⟩; obtain ⟨c1, c2⟩ := HL.out w' hn)
      go_ret2
      exact ⟨rfl, hn⟩
    | some u =>
      have HL := Lib.hid (fun w' (hb : Below w.heap.size w w') => And.intro (h.below hb).cell.2.1 (look_some (h.below hb) hz hg))
      clear h hs
      go_enter Try.func76, Try.ntmps76
      go_wp2_with (go_at_call 62; refine HM.out.mono ?_; rintro e w' ⟨rfl, hn⟩; obtain ⟨c1, x, c2, c3, _⟩ := HL.out w' hn; have c4 := bytesAt_conv c2; clear c2)
      go_ret2
      exact ⟨rfl, hn⟩
  · rw [e2] at HM ⊢
    simp only [show ¬ ((2 : Int) = 0) from by decide, if_false]
    clear h hs
    go_enter Try.func76, Try.ntmps76
    go_wp2_with (go_at_call 62; refine HM.out.mono ?_; rintro e w' ⟨rfl, hn⟩)
    go_ret2
    exact ⟨rfl, hn⟩

theorem isstrs_nil (w : World) : IsStrs w none 0 0 [] := ⟨rfl, Nat.le_refl _, ⟨by omega, by omega⟩, fun _ h => by simp at h, .inl ⟨rfl, fun _ => rfl⟩⟩

def getE (ps : PS) (s : ByteArray) : Int := thereE ps s []
def getV (ps : PS) (s : ByteArray) : ByteArray := thereV ps s []

set_option maxRecDepth 100000 in
theorem get_any {B b m : Nat} {v : Value} {K M : Nat} {ps : PS} (w : World) (h : BookAt w B b m v K M ps) (s : ByteArray) (hz : s.size ≤ 1000) :
    Calls Try.prog 45 #[.pointer (some ⟨b, 0, none⟩), .string s] w fun e w' => e = .returned (.tuple #[.string (getV ps s), .int .i64 (getE ps s)]) ∧ Below w.heap.size w w' := by
  have HM := Lib.hid (there_any w h s none 0 0 [] hz (isstrs_nil w) (by omega))
  clear h
  unfold getE getV
  go_enter Try.func45, Try.ntmps45
  go_wp2_with (go_at_call 76; refine HM.out.mono ?_; rintro e w' ⟨rfl, hn⟩)
  go_ret2
  exact ⟨rfl, hn⟩

theorem wrap64 (n : Nat) (h : n < 2 ^ 63) : IntKind.u64.wrap (n : Int) = n := by
  unfold IntKind.wrap; simp [IntKind.signed, IntKind.bits]; omega

set_option maxRecDepth 100000 in
theorem size_any (s t : ByteArray) (w : World) (hs : s.size ≤ 1000) (ht : t.size ≤ 1000) :
    Calls Try.prog 78 #[.string s, .string t] w fun e w' => e = .returned (.int .u64 ((s.size + t.size : Nat) : Int)) ∧ w' = w := by
  go_enter Try.func78, Try.ntmps78
  go_wp2
  go_ret
  exact ⟨ret_int (by go_num), rfl⟩

set_option maxRecDepth 100000 in
theorem keys_any {B b m : Nat} {v : Value} {K M : Nat} {ps : PS} (w : World) (h : BookAt w B b m v K M ps) (hn : ps.length < 100000) :
    Calls Try.prog 34 #[.pointer (some ⟨b, 0, none⟩)] w fun e w' => e = .returned (.int .u64 (ps.length : Nat)) ∧ w' = w := by
  have HN := Lib.hid (none_any w h)
  obtain ⟨a, cap, rfl⟩ : ∃ a cap, v = .slice a ps.length cap := by
    rcases row_get h.row with ⟨rfl, h0, _⟩ | ⟨g, cap, cur, rfl, _⟩
    · exact ⟨none, 0, by rw [h0]⟩
    · exact ⟨_, _, rfl⟩
  have h1 := h.cell.1
  clear h
  go_enter Try.func34, Try.ntmps34
  go_wp2_with (go_at_call 61; refine HN.out.mono ?_; rintro e w' ⟨rfl, rfl⟩)
  go_ret
  exact ⟨ret_int (by go_num), rfl⟩

set_option maxRecDepth 100000 in
theorem bytes_any {B b m : Nat} {v : Value} {K M : Nat} {ps : PS} (w : World) (h : BookAt w B b m v K M ps) :
    Calls Try.prog 35 #[.pointer (some ⟨b, 0, none⟩)] w fun e w' => e = .returned (.int .u64 (totP ps : Nat)) ∧ w' = w := by
  have HN := Lib.hid (none_any w h)
  have h1 := h.cell.2.2.2.2.1
  clear h
  go_enter Try.func35, Try.ntmps35
  go_wp2_with (go_at_call 61; refine HN.out.mono ?_; rintro e w' ⟨rfl, rfl⟩)
  go_ret
  exact ⟨rfl, rfl⟩

end Go.Proofs.Ytgfhaldfjnepmaa
