/- Walks of the codes of keys: the reference's Encode and Less, the program's Encode and Less. -/
import Derived.Test.YtegccicplcjcmaaCode1
import Derived.Test.YtegccicplcjcmaaBase
import Derived.Test.YtegccicplcjcmaaProg
import Derived.Maps.AppendAt
namespace Go.Proofs.Ytegccicplcjcmaa
open Go Go.RowKit Go.Shelf Go.Proofs
attribute [local go_sem] Oper.semAt_some

theorem by_get_c (s : ByteArray) (k : Nat) (h : k < s.size) : (by_ s)[k]'(by rw [size_by]; exact h) = s[k] := rfl

theorem ext_one (s : ByteArray) (k : Nat) (h : k < s.size) : s.extract k (k + 1) = bs [s[k]] := by
  have h2 : k < (by_ s).length := by rw [size_by]; exact h
  rw [extract_bs]
  congr 1
  rw [List.take_succ_eq_append_getElem h2, List.drop_append_of_le_length (by rw [List.length_take]; omega), List.drop_of_length_le (by rw [List.length_take]; omega)]
  rfl

theorem take_by (s : ByteArray) (k : Nat) (h : k < s.size) : (by_ s).take (k + 1) = (by_ s).take k ++ [s[k]] := by
  rw [List.take_succ_eq_append_getElem (by rw [size_by]; exact h)]
  rfl

/-- What Encode hands back. -/
def encV (s : ByteArray) : Value := if s.size ≤ 16 then .tuple #[.string (bs (encC (by_ s))), .int .i64 0] else .tuple #[.string ⟨#[]⟩, .int .i64 3]

theorem enc_step0 (s : ByteArray) (k : Nat) (h : k < s.size) (h0 : s[k] = 0) : bs (encL ((by_ s).take k)) ++ s.extract k (k + 1) ++ ⟨#[1]⟩ = bs (encL ((by_ s).take (k + 1))) := by
  rw [ext_one s k h, take_by s k h, encL_append, encL_one, if_pos h0, h0, bs_append, show (⟨#[1]⟩ : ByteArray) = bs [1] from rfl, bs_append, List.append_assoc]
  rfl
theorem enc_step1 (s : ByteArray) (k : Nat) (h : k < s.size) (h0 : s[k] ≠ 0) : bs (encL ((by_ s).take k)) ++ s.extract k (k + 1) = bs (encL ((by_ s).take (k + 1))) := by
  rw [ext_one s k h, take_by s k h, encL_append, encL_one, if_neg h0, bs_append]

set_option maxRecDepth 100000 in
set_option maxHeartbeats 4000000 in
theorem refenc_any (s : ByteArray) (w : World) :
    Calls Try.prog 33 #[.string s] w fun e w' => e = .returned (encV s) ∧ w = w' := by
  by_cases h16 : s.size ≤ 16
  · have HV : Hid (encV s = .tuple #[.string (bs (encL (by_ s)) ++ ⟨#[0, 0]⟩), .int .i64 0]) := Lib.hid (by unfold encV; rw [if_pos h16]; unfold encC; rw [show (⟨#[0, 0]⟩ : ByteArray) = bs [0, 0] from rfl, bs_append])
    have H0 := Lib.hid (enc_step0 s)
    have H1 := Lib.hid (enc_step1 s)
    have HSZ := Lib.hid (fun k => (show (bs (encL ((by_ s).take k))).size ≤ 32 by
      have := (encL_length ((by_ s).take k)).2
      rw [size_bs]; rw [List.length_take, size_by] at this; omega))
    have HT : Hid ((by_ s).take s.size = by_ s) := Lib.hid (by rw [List.take_of_length_le (by rw [size_by]; omega)])
    go_enter Try.func33, Try.ntmps33
    go_wp2_with fail
    go_loop [4, 5] (fun o i => ∃ k : Nat, k ≤ s.size ∧ i = .int .i64 k ∧ o = .string (bs (encL ((by_ s).take k)))) (fun _ i => s.size - (intOf i).toNat)
    case atStart => exact ⟨0, Nat.zero_le _, rfl, by simp [bs, encL]⟩
    case round =>
      obtain ⟨k, hk, rfl, rfl⟩ := hrel
      have hsz := HSZ.out k
      by_cases hk2 : k < s.size
      · have h0 := H0.out k hk2
        have h1 := H1.out k hk2
        by_cases hz : s[k] = 0
        · have h2 := h0 hz
          have hz2 : s[k].toNat = 0 := by rw [hz]; rfl
          clear h0 h1
          go_wp2_with fail
          go_round
          case rel => exact ⟨k + 1, by omega, by go_num, by rw [← h2]⟩
          case measure => simp [intOf]; omega
        · have h2 := h1 hz
          have hz2 : ¬ s[k].toNat = 0 := fun e => hz (UInt8.toNat_inj.1 (by simpa using e))
          clear h0 h1
          go_wp2_with fail
          go_round
          case rel => exact ⟨k + 1, by omega, by go_num, by rw [← h2]⟩
          case measure => simp [intOf]; omega
      · obtain rfl : k = s.size := by omega
        go_wp2_with fail
        refine bodyPost_ret (v := encV s) (by rw [HV.out]; simp [results, Try.f33, go_sem, HT.out]) rfl ⟨rfl, rfl⟩
  · have HV : Hid (encV s = .tuple #[.string ⟨#[]⟩, .int .i64 3]) := Lib.hid (by unfold encV; rw [if_neg h16])
    have h16' : (16 : Int) < s.size := by omega
    clear h16
    go_enter Try.func33, Try.ntmps33
    go_wp2_with fail
    refine bodyPost_ret (v := encV s) (by rw [HV.out]; simp [results, Try.f33, go_sem]) rfl ⟨rfl, rfl⟩

theorem infoU8 : (Try.prog.info? 5).map (fun i => (i.zero, i.size, i.bytes)) = some (some (.int .u8 0), 1, 1) := by kernel_rfl

/-- Bytes as values. -/
def u8s (l : List UInt8) : List Value := l.map (fun b => Value.int .u8 (b.toNat : Nat))
theorem u8s_append (l m : List UInt8) : u8s (l ++ m) = u8s l ++ u8s m := by simp [u8s]
theorem u8s_length (l : List UInt8) : (u8s l).length = l.length := by simp [u8s]
theorem u8s_one (l : List UInt8) : ∀ u ∈ u8s l, u.oneCell' = true := by
  intro u hu
  obtain ⟨_, _, rfl⟩ := List.mem_map.1 hu
  rfl

/-- The variable out, in its box: it holds a slice of its own, of these bytes. -/
def OutBox (n₀ B : Nat) (l : List UInt8) (W : World) : Prop := ∃ v, Boxed W B 130 v ∧ W.ownsRow n₀ 5 1 v l.length (u8s l) ∧ (v = .slice none 0 0 ∨ ∃ g cap, v = .slice (some ⟨g, 0, none⟩) l.length cap)

theorem own_none_or {W : World} {n₀ : Nat} {v : Value} {n : Nat} {xs : List Value} (h : W.ownsRow n₀ 5 1 v n xs) : v = .slice none 0 0 ∨ ∃ g cap, v = .slice (some ⟨g, 0, none⟩) n cap := by
  rcases h.2 with ⟨h1, _⟩ | ⟨g, cap, cur, h1, _⟩
  · exact .inl h1
  · exact .inr ⟨g, cap, h1⟩

end Go.Proofs.Ytegccicplcjcmaa
