/- Walks: picking, an operation of the law: does it fit; performing it. -/
import Derived.Test.YtgfhaldfjnepmaaBk18
namespace Go.Proofs.Ytgfhaldfjnepmaa
open Go Go.RowKit Go.Shelf Go.Proofs
attribute [local go_sem] Oper.semAt_some

set_option maxRecDepth 100000 in
theorem pick_any (x n : Int) (w : World) (h : 1 ≤ n) (h2 : n ≤ 4611686018427387904) :
    Calls Try.prog 21 #[.int .i64 x, .int .i64 n] w fun e w' => (∃ k : Nat, e = .returned (.int .i64 k) ∧ (k : Int) < n ∧ (k : Int) = x % n) ∧ w = w' := by
  have hm := Lib.hid (show x.tmod n = if 0 ≤ x then x % n else if x % n = 0 then 0 else x % n - n by
    by_cases h0 : 0 ≤ x
    · rw [if_pos h0, Int.tmod_eq_emod_of_nonneg h0]
    · rw [if_neg h0, Int.tmod_eq_emod]
      by_cases h1 : x % n = 0
      · rw [if_pos h1, if_pos (by right; exact Int.dvd_of_emod_eq_zero h1), h1]; rfl
      · rw [if_neg h1, if_neg (by rintro (h3 | h3); exact h0 h3; exact h1 (Int.emod_eq_zero_of_dvd h3))]
        omega)
  have he1 := Int.emod_nonneg x (show n ≠ 0 by omega)
  have he2 := Int.emod_lt_of_pos x (show 0 < n by omega)
  have hn1 : ¬ n < 1 := by omega
  have hn0 : (n == 0) = false := by simp; omega
  have hn0' : n ≠ 0 := by omega
  obtain ⟨q, hq⟩ : ∃ q, q = x.tmod n := ⟨_, rfl⟩
  have hq2 := hm.out
  rw [← hq] at hq2
  by_cases hneg : q < 0
  · have hr : q + n = x % n := by
      by_cases h0 : 0 ≤ x
      · rw [if_pos h0] at hq2; omega
      · rw [if_neg h0] at hq2
        by_cases h1 : x % n = 0
        · rw [if_pos h1] at hq2; omega
        · rw [if_neg h1] at hq2; omega
    clear hq2 hm
    go_enter Try.func21, Try.ntmps21
    go_wp2
    go_ret
    exact ⟨⟨(x % n).toNat, ret_int (by omega), by omega, by omega⟩, rfl⟩
  · have hr : q = x % n := by
      by_cases h0 : 0 ≤ x
      · rw [if_pos h0] at hq2; omega
      · rw [if_neg h0] at hq2
        by_cases h1 : x % n = 0
        · rw [if_pos h1] at hq2; omega
        · rw [if_neg h1] at hq2; omega
    clear hq2 hm
    go_enter Try.func21, Try.ntmps21
    go_wp2
    go_ret
    exact ⟨⟨(x % n).toNat, ret_int (by omega), by omega, by omega⟩, rfl⟩

/-- An operation of the law. -/
structure Deed where
  what : Int
  key : ByteArray
  value : ByteArray
  old : ByteArray
  n : Int

def deedCells (d : Deed) : List Value := [.int .i64 d.what, .string d.key, .string d.value, .string d.old, .int .i64 d.n]
def deedV (d : Deed) : Value := .agg #[.int .i64 d.what, .string d.key, .string d.value, .string d.old, .int .i64 d.n]
def fitsB (d : Deed) : Bool := decide (d.key.size ≤ 100) && (decide (d.value.size ≤ 100) && decide (d.old.size ≤ 100))

set_option maxRecDepth 100000 in
set_option maxHeartbeats 1000000 in
theorem fits_any (d : Deed) (w : World) (h1 : d.key.size ≤ 140737488351232) (h2 : d.value.size ≤ 140737488351232) (h3 : d.old.size ≤ 140737488351232) :
    Calls Try.prog 29 #[deedV d] w fun e w' => e = .returned (.bool (fitsB d)) ∧ Below w.heap.size w w' := by
  obtain ⟨what, key, value, old, n⟩ := d
  simp only at h1 h2 h3
  have hB := (Below.refl w.heap.size w).alloc (Nat.le_refl _) (Obj.cells #[.int .i64 what, .string key, .string value, .string old, .int .i64 n] 46)
  unfold fitsB deedV
  simp only
  by_cases c1 : key.size ≤ 100
  · have k1 : (key.size : Int) ≤ 100 := by omega
    by_cases c2 : value.size ≤ 100
    · have k2 : (value.size : Int) ≤ 100 := by omega
      go_enter Try.func29, Try.ntmps29
      go_wp2
      go_ret
      exact ⟨ret_bool (by simp [c1, c2]; omega), hB⟩
    · have k2 : ¬ (value.size : Int) ≤ 100 := by omega
      go_enter Try.func29, Try.ntmps29
      go_wp2
      go_ret
      exact ⟨ret_bool (by simp [c1, c2]), hB⟩
  · have k1 : ¬ (key.size : Int) ≤ 100 := by omega
    go_enter Try.func29, Try.ntmps29
    go_wp2
    go_ret
    exact ⟨ret_bool (by simp [c1]), hB⟩

def actE (K M : Nat) (ps : PS) (d : Deed) : Int :=
  if d.what % 6 = 3 then getE ps d.key else if d.what % 6 = 4 then swapE K M ps d.key d.old d.value else if d.what % 6 = 5 then scanE d.key d.n else putE K M ps d.key d.value
def actQ (K M : Nat) (ps : PS) (d : Deed) : PS :=
  if d.what % 6 = 3 then delQ ps d.key else if d.what % 6 = 4 then swapQ K M ps d.key d.old d.value else if d.what % 6 = 5 then ps else putQ K M ps d.key d.value

set_option maxRecDepth 100000 in
set_option maxHeartbeats 4000000 in
theorem act_any {B b m : Nat} {v : Value} {K M : Nat} {ps : PS} (w : World) (h : BookAt w B b m v K M ps) (hn : ps.length < 80000) (hBs : B ≤ w.heap.size) (d : Deed) (h1 : d.key.size ≤ 1000) (h2 : d.value.size ≤ 1000) (h3 : d.old.size ≤ 1000)
    (h4 : -9223372036854775808 ≤ d.n) (h5 : d.n ≤ 9223372036854775807) :
    Calls Try.prog 31 #[.pointer (some ⟨b, 0, none⟩), deedV d] w fun e w' => e = .returned (.int .i64 (actE K M ps d)) ∧ ∃ v', BookAt w' B b m v' K M (actQ K M ps d) ∧ Turned b m v w v' w' := by
  obtain ⟨what, key, value, old, n⟩ := d
  simp only at h1 h2 h3 h4 h5
  unfold deedV actE actQ
  simp only
  obtain ⟨w1, hw1⟩ : ∃ w1, w1 = w.alloc (.cells #[.int .i64 what, .string key, .string value, .string old, .int .i64 n] 46) := ⟨_, rfl⟩
  have hB : Below w.heap.size w w1 := by rw [hw1]; exact (Below.refl w.heap.size w).alloc (Nat.le_refl _) _
  have hb1 := h.below hB
  have hs1 : w1.heap.size = w.heap.size + 1 := by rw [hw1]; simp
  have HP := Lib.hid (fun W => pick_any what 6 W (by omega) (by omega))
  have HT := Lib.hid (fun (v' : Value) (w' : World) (ht : Turned b m v w1 v' w') => Turned.trans (Turned.of_below hB) ht)
  have HD := Lib.hid (del_any w1 hb1 (by omega) key h1)
  have HS := Lib.hid (swap_any w1 hb1 (by omega) (by omega) key old value h1 h3 h2)
  have HC := Lib.hid (scan_any w1 hb1 (by omega) key h1 n h4 h5)
  have HU := Lib.hid (put_any w1 hb1 (by omega) (by omega) key value h1 h2)
  have HB := Lib.hid (fun w' hb => hb1.below (w' := w') hb)
  rw [hw1] at HD HS HC HU HT HB
  clear h hb1 hB
  have he1 := Int.emod_nonneg what (show (6 : Int) ≠ 0 by omega)
  have he2 := Int.emod_lt_of_pos what (show (0 : Int) < 6 by omega)
  by_cases q3 : what % 6 = 3
  · rw [if_pos q3, if_pos q3]
    go_enter Try.func31, Try.ntmps31
    go_wp2_with (first
      | (go_at_call 21; refine (HP.out _).mono ?_; rintro e w' ⟨⟨k, rfl, hk6, hk⟩, rfl⟩; obtain rfl : k = 3 := by omega)
      | (go_at_call 46; refine HD.out.mono ?_; rintro e w4 ⟨rfl, v', k1, k2⟩))
    go_ret
    exact ⟨rfl, v', k1, HT.out _ _ k2⟩
  rw [if_neg q3, if_neg q3]
  by_cases q4 : what % 6 = 4
  · rw [if_pos q4, if_pos q4]
    go_enter Try.func31, Try.ntmps31
    go_wp2_with (first
      | (go_at_call 21; refine (HP.out _).mono ?_; rintro e w' ⟨⟨k, rfl, hk6, hk⟩, rfl⟩; obtain rfl : k = 4 := by omega)
      | (go_at_call 47; refine HS.out.mono ?_; rintro e w4 ⟨rfl, v', k1, k2⟩))
    go_ret
    exact ⟨rfl, v', k1, HT.out _ _ k2⟩
  rw [if_neg q4, if_neg q4]
  by_cases q5 : what % 6 = 5
  · rw [if_pos q5, if_pos q5]
    go_enter Try.func31, Try.ntmps31
    go_wp2_with (first
      | (go_at_call 21; refine (HP.out _).mono ?_; rintro e w' ⟨⟨k, rfl, hk6, hk⟩, rfl⟩; obtain rfl : k = 5 := by omega)
      | (go_at_call 37; refine HC.out.mono ?_; rintro e w4 ⟨pv, rfl, _, hn1⟩))
    go_ret
    exact ⟨rfl, v, HB.out _ hn1, HT.out _ _ (Turned.of_below hn1)⟩
  rw [if_neg q5, if_neg q5]
  have HK : Hid (∀ k : Nat, (k : Int) = what % 6 → k = 0 ∨ k = 1 ∨ k = 2) := Lib.hid (fun k hk => by omega)
  go_enter Try.func31, Try.ntmps31
  go_wp2_with (first
    | (go_at_call 21; refine (HP.out _).mono ?_; rintro e w' ⟨⟨k, rfl, hk6, hk⟩, rfl⟩; have hk3 : ¬ (k : Int) = 3 := (by omega); have hk4 : ¬ (k : Int) = 4 := (by omega); have hk5 : ¬ (k : Int) = 5 := (by omega))
    | (go_at_call 48; refine HU.out.mono ?_; rintro e w4 ⟨rfl, v', k1, k2⟩))
  go_ret
  exact ⟨rfl, v', k1, HT.out _ _ k2⟩

end Go.Proofs.Ytgfhaldfjnepmaa
