/- Walks of the package realm: Owner, Prefix, Join, Split, Range. -/
import Derived.Test.YtkfjoonhgpgaiaaRealm4
import Derived.Test.YtkfjoonhgpgaiaaCode11
import Derived.Test.YtkfjoonhgpgaiaaBound2
namespace Go.Proofs.Ytkfjoonhgpgaiaa
open Go Go.RowKit Go.Shelf Go.Proofs Go.Sort
attribute [local go_sem] Oper.semAt_some

set_option maxRecDepth 100000 in
set_option maxHeartbeats 2000000 in
theorem owner_any (t : ByteArray) (w : World) :
    Calls Try.prog 36 #[.string t] w fun e w' => e = .returned (.tuple #[.int .i64 (ownerN t), .bool (decide (1 ≤ ownerN t))]) ∧ Below w.heap.size w w' := by
  have hmf : ∀ (fn : Fn) (first cap : Array Value) (w : World), (Instr.makeFunc fn first cap).run Try.prog w = .ok (.func fn first cap) w := fun _ _ _ _ => rfl
  have hB := (Below.refl w.heap.size w).alloc (Nat.le_refl _) (.cells #[.string t] 9)
  have hc := Lib.hid (find_any t w.heap.size (w.alloc (.cells #[.string t] 9)) (by simp))
  generalize ownerN t = N at hc ⊢
  obtain ⟨D, hD⟩ : ∃ D, decide (1 ≤ N) = D := ⟨_, rfl⟩
  rw [hD] at hc
  have HD := Lib.hid hD
  clear hD
  go_enter Try.func36, Try.ntmps36
  go_wp2_with (go_at_call 60; refine hc.out.mono ?_; rintro e w' ⟨rfl, hn⟩; have hB2 := hB.trans (hn.mono hB.size))
  refine bodyPost_ret (v := .tuple #[.int .i64 N, .bool D]) (by simp [results, Try.f36, go_sem]) rfl ⟨by rw [HD.out], hB2.alloc hB2.size _⟩

/-- What Prefix hands back. -/
def preV (n : Int) : Value := if 1 ≤ n ∧ n ≤ 16 then .tuple #[.string (bs (preL n.toNat)), .int .i64 0] else .tuple #[.string ⟨#[]⟩, .int .i64 2]

theorem tenant_cases (n : Int) : (decide (1 ≤ n ∧ n ≤ 16) = true ∧ ∃ k : Nat, n = k ∧ 1 ≤ k ∧ k ≤ 16) ∨ (decide (1 ≤ n ∧ n ≤ 16) = false ∧ ¬ (1 ≤ n ∧ n ≤ 16)) := by
  by_cases h : 1 ≤ n ∧ n ≤ 16
  · exact .inl ⟨decide_eq_true h, n.toNat, by omega, by omega, by omega⟩
  · exact .inr ⟨decide_eq_false h, h⟩

theorem preV_ok (k : Nat) (h1 : 1 ≤ k) (h2 : k ≤ 16) : preV (k : Int) = .tuple #[.string (bs (preL k)), .int .i64 0] := by
  unfold preV; rw [if_pos (by omega), Int.toNat_natCast]
theorem preV_no (n : Int) (h : ¬ (1 ≤ n ∧ n ≤ 16)) : preV n = .tuple #[.string ⟨#[]⟩, .int .i64 2] := by unfold preV; rw [if_neg h]

set_option maxRecDepth 100000 in
set_option maxHeartbeats 2000000 in
theorem realmprefix_any (n : Int) (w : World) :
    Calls Try.prog 55 #[.int .i64 n] w fun e w' => e = .returned (preV n) ∧ Below w.heap.size w w' := by
  have hB := (Below.refl w.heap.size w).alloc (Nat.le_refl _) (.cells #[.int .i64 n] 73)
  rcases tenant_cases n with ⟨hd, k, rfl, h1, h2⟩ | ⟨hd, h⟩
  · have HV := Lib.hid (preV_ok k h1 h2)
    have h3 := Lib.hid hd
    clear hd
    have hlt : w.heap.size < (w.alloc (.cells #[.int .i64 (k : Nat)] 73)).heap.size := by simp
    have hcell : (w.alloc (.cells #[.int .i64 (k : Nat)] 73)).cell? ⟨w.heap.size, 0, none⟩ = some (.int .i64 k) := by simp
    go_enter Try.func55, Try.ntmps55
    go_wp2_with (first
      | (go_at_call 64; refine (isowner_any _ _).mono ?_; rw [h3.out]; rintro e w1 ⟨rfl, hn1⟩; have hB1 := hB.trans (hn1.mono hB.size); have hcell1 := (hn1.cell (p := ⟨w.heap.size, 0, none⟩) hlt).trans hcell)
      | (go_at_call 63; refine (prefix_any _ _ (by omega)).mono ?_; rintro e w2 ⟨rfl, hn2⟩; have hB2 := hB1.trans (hn2.mono hB1.size)))
    refine bodyPost_ret (v := preV k) (by rw [HV.out]; simp [results, Try.f55, go_sem]) rfl ⟨rfl, hB2⟩
  · have HV := Lib.hid (preV_no n h)
    have h3 := Lib.hid hd
    clear hd h
    go_enter Try.func55, Try.ntmps55
    go_wp2_with (go_at_call 64; refine (isowner_any _ _).mono ?_; rw [h3.out]; rintro e w1 ⟨rfl, hn1⟩; have hB1 := hB.trans (hn1.mono hB.size))
    refine bodyPost_ret (v := preV n) (by rw [HV.out]; simp [results, Try.f55, go_sem]) rfl ⟨rfl, hB1⟩

/-- The path of a key. -/
def pathL (k : Nat) (s : ByteArray) : ByteArray := bs (preL k ++ encC (by_ s))
/-- What Join hands back. -/
def joinV (n : Int) (s : ByteArray) : Value := if 1 ≤ n ∧ n ≤ 16 then (if s.size ≤ 16 then .tuple #[.string (pathL n.toNat s), .int .i64 0] else .tuple #[.string ⟨#[]⟩, .int .i64 3]) else .tuple #[.string ⟨#[]⟩, .int .i64 2]

theorem joinV_ok (k : Nat) (s : ByteArray) (h1 : 1 ≤ k) (h2 : k ≤ 16) (h : s.size ≤ 16) : joinV (k : Int) s = .tuple #[.string (pathL k s), .int .i64 0] := by
  unfold joinV; rw [if_pos (by omega), if_pos h, Int.toNat_natCast]
theorem joinV_long (k : Nat) (s : ByteArray) (h1 : 1 ≤ k) (h2 : k ≤ 16) (h : ¬ s.size ≤ 16) : joinV (k : Int) s = .tuple #[.string ⟨#[]⟩, .int .i64 3] := by
  unfold joinV; rw [if_pos (by omega), if_neg h]
theorem joinV_no (n : Int) (s : ByteArray) (h : ¬ (1 ≤ n ∧ n ≤ 16)) : joinV n s = .tuple #[.string ⟨#[]⟩, .int .i64 2] := by unfold joinV; rw [if_neg h]

theorem pathL_eq (k : Nat) (s : ByteArray) : bs (preL k) ++ bs (encC (by_ s)) = pathL k s := bs_append _ _

set_option maxRecDepth 100000 in
set_option maxHeartbeats 2000000 in
theorem text_any (k : Nat) (s : ByteArray) (w : World) (h1 : 1 ≤ k) (h2 : k ≤ 16) (hs : s.size ≤ 281474976710656) :
    Calls Try.prog 65 #[.agg #[.int .i64 k, .string s]] w fun e w' => e = .returned (joinV k s) ∧ Below w.heap.size w w' := by
  have hB := (Below.refl w.heap.size w).alloc (Nat.le_refl _) (.cells #[.int .i64 k, .string s] 79)
  have hlt : w.heap.size < (w.alloc (.cells #[.int .i64 (k : Nat), .string s] 79)).heap.size := by simp
  have hcell : (w.alloc (.cells #[.int .i64 (k : Nat), .string s] 79)).cell? ⟨w.heap.size, 0, none⟩ = some (.int .i64 k) := by simp
  by_cases h16 : s.size ≤ 16
  · have HV := Lib.hid (joinV_ok k s h1 h2 h16)
    have HE := Lib.hid (encV_ok h16)
    have hp := Lib.hid (pathL_eq k s)
    have hz : (bs (encC (by_ s))).size ≤ 34 := by have := (encC_length (by_ s)).2; rw [size_bs]; rw [size_by] at this; omega
    have hz2 : (bs (preL k)).size = 8 := rfl
    generalize bs (encC (by_ s)) = c at HE hp hz
    go_enter Try.func65, Try.ntmps65
    go_wp2_with (first
      | (go_at_call 30; refine (encode_any _ _ hs).mono ?_; rw [HE.out]; rintro e w1 ⟨rfl, hn1⟩; have hB1 := hB.trans (hn1.mono hB.size); have hcell1 := (hn1.cell (p := ⟨w.heap.size, 0, none⟩) hlt).trans hcell)
      | (go_at_call 63; refine (prefix_any _ _ (by omega)).mono ?_; rintro e w2 ⟨rfl, hn2⟩; have hB2 := hB1.trans (hn2.mono hB1.size)))
    refine bodyPost_ret (v := joinV k s) (by rw [HV.out]; simp [results, Try.f65, go_sem, hp.out]) rfl ⟨rfl, hB2⟩
  · have HV := Lib.hid (joinV_long k s h1 h2 h16)
    have HE := Lib.hid (encV_long h16)
    clear h16
    go_enter Try.func65, Try.ntmps65
    go_wp2_with (go_at_call 30; refine (encode_any _ _ hs).mono ?_; rw [HE.out]; rintro e w1 ⟨rfl, hn1⟩; have hB1 := hB.trans (hn1.mono hB.size))
    refine bodyPost_ret (v := joinV k s) (by rw [HV.out]; simp [results, Try.f65, go_sem]) rfl ⟨rfl, hB1⟩

theorem joinV_parts (n : Int) (s : ByteArray) : ∃ p e, joinV n s = .tuple #[.string p, .int .i64 e] := by
  unfold joinV
  split
  · split <;> exact ⟨_, _, rfl⟩
  · exact ⟨_, _, rfl⟩

set_option maxRecDepth 100000 in
set_option maxHeartbeats 2000000 in
theorem realmjoin_any (n : Int) (s : ByteArray) (w : World) (hs : s.size ≤ 281474976710656) :
    Calls Try.prog 38 #[.int .i64 n, .string s] w fun e w' => e = .returned (joinV n s) ∧ Below w.heap.size w w' := by
  have hB := (Below.refl w.heap.size w).alloc (Nat.le_refl _) (.cells #[.int .i64 n, .string s] 79)
  rcases tenant_cases n with ⟨hd, k, rfl, h1, h2⟩ | ⟨hd, h⟩
  · obtain ⟨p, e, hV⟩ := joinV_parts k s
    have HV := Lib.hid hV
    have h3 := Lib.hid hd
    clear hd hV
    have hlt : w.heap.size < (w.alloc (.cells #[.int .i64 (k : Nat), .string s] 79)).heap.size := by simp
    have hcell : (w.alloc (.cells #[.int .i64 (k : Nat), .string s] 79)).cell? ⟨w.heap.size, 0, none⟩ = some (.int .i64 k) := by simp
    have hcelx : (w.alloc (.cells #[.int .i64 (k : Nat), .string s] 79)).cell? ⟨w.heap.size, 1, none⟩ = some (.string s) := by simp
    go_enter Try.func38, Try.ntmps38
    go_wp2_with (first
      | (go_at_call 64; refine (isowner_any _ _).mono ?_; rw [h3.out]; rintro e w1 ⟨rfl, hn1⟩; have hB1 := hB.trans (hn1.mono hB.size); have hcell1 := (hn1.cell (p := ⟨w.heap.size, 0, none⟩) hlt).trans hcell; have hcelx1 := (hn1.cell (p := ⟨w.heap.size, 1, none⟩) hlt).trans hcelx)
      | (go_at_call 65; refine (text_any _ _ _ h1 h2 hs).mono ?_; rw [HV.out]; rintro e w2 ⟨rfl, hn2⟩; have hB2 := hB1.trans (hn2.mono hB1.size)))
    refine bodyPost_ret (v := joinV k s) (by rw [HV.out]; simp [results, Try.f38, go_sem]) rfl ⟨rfl, hB2⟩
  · have HV := Lib.hid (joinV_no n s h)
    have h3 := Lib.hid hd
    clear hd h
    go_enter Try.func38, Try.ntmps38
    go_wp2_with (go_at_call 64; refine (isowner_any _ _).mono ?_; rw [h3.out]; rintro e w1 ⟨rfl, hn1⟩; have hB1 := hB.trans (hn1.mono hB.size))
    refine bodyPost_ret (v := joinV n s) (by rw [HV.out]; simp [results, Try.f38, go_sem]) rfl ⟨rfl, hB1⟩
end Go.Proofs.Ytkfjoonhgpgaiaa
