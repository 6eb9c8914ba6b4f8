/- Walk: exceeds. -/
import Derived.Test.YtgfhaldfjnepmaaBk20
namespace Go.Proofs.Ytgfhaldfjnepmaa
open Go Go.RowKit Go.Shelf Go.Proofs
attribute [local go_sem] Oper.semAt_some

theorem delP_append (a b : PS) (s : ByteArray) : delP (a ++ b) s = delP a s ++ delP b s := List.filter_append ..
theorem delP_take {ps : PS} {k : Nat} {p : ByteArray × ByteArray} (h : ps[k]? = some p) (s : ByteArray) : delP (ps.take (k + 1)) s = if p.1 = s then delP (ps.take k) s else delP (ps.take k) s ++ [p] := by
  rw [List.take_add_one, h, delP_append]
  by_cases e : p.1 = s
  · simp [delP, e]
  · simp [delP, e]

def excB (K M : Nat) (ps : PS) (d : Deed) : Bool := decide (K < (delP ps d.key).length + 1) || decide (M < totP (delP ps d.key) + (d.key.size + d.value.size))

theorem delP_le (ps : PS) (s : ByteArray) : (delP ps s).length ≤ ps.length := List.length_filter_le ..

set_option maxRecDepth 100000 in
set_option maxHeartbeats 4000000 in
theorem exceeds_any (K M : Nat) (hK : K < 2 ^ 64) (hM : M < 2 ^ 64) (a : Option Addr) (cap : Nat) (ps : PS) (w : World) (hp : IsPairs w a ps.length ps) (hlen : ps.length < 90000) (hsm : ∀ p ∈ ps, p.1.size ≤ 16 ∧ p.2.size ≤ 32) (d : Deed) (h1 : d.key.size ≤ 1000) (h2 : d.value.size ≤ 1000) :
    Calls Try.prog 36 #[.agg #[.int .u64 K, .int .u64 M], .slice a ps.length cap, deedV d] w fun e w' => e = .returned (.bool (excB K M ps d)) ∧ Below w.heap.size w w' := by
  obtain ⟨what, key, value, old, n⟩ := d
  simp only at h1 h2
  unfold deedV excB
  simp only
  have hB2 := ((Below.refl w.heap.size w).alloc (Nat.le_refl _) (.cells #[.int .u64 K, .int .u64 M] 41)).alloc (by simp) (.cells #[.int .i64 what, .string key, .string value, .string old, .int .i64 n] 46)
  obtain ⟨w2, hw2⟩ : ∃ w2, w2 = (w.alloc (.cells #[.int .u64 K, .int .u64 M] 41)).alloc (.cells #[.int .i64 what, .string key, .string value, .string old, .int .i64 n] 46) := ⟨_, rfl⟩
  have hd := World.alloc_heap_new (w.alloc (.cells #[.int .u64 K, .int .u64 M] 41)) (.cells #[.int .i64 what, .string key, .string value, .string old, .int .i64 n] 46)
  have hl := key1 _ _ (.cells #[.int .i64 what, .string key, .string value, .string old, .int .i64 n] 46) _ (World.alloc_heap_new w (.cells #[.int .u64 K, .int .u64 M] 41))
  rw [← hw2] at hd hl hB2
  have hs2 : w2.heap.size = w.heap.size + 1 + 1 := by rw [hw2]; simp
  simp only [World.size_alloc] at hd
  have HP := Lib.hid (hp.below hB2)
  have HD := Lib.hid (fun w' (hb : Below w2.heap.size w2 w') => (show w'.cell? ⟨w.heap.size + 1, 1, none⟩ = some (.string key) ∧ w'.cell? ⟨w.heap.size + 1, 2, none⟩ = some (.string value) ∧ w'.cell? ⟨w.heap.size, 0, none⟩ = some (.int .u64 K) ∧ w'.cell? ⟨w.heap.size, 1, none⟩ = some (.int .u64 M) by
    have e1 := (hb.block (w.heap.size + 1) (by omega)).trans hd
    have e2 := (hb.block w.heap.size (by omega)).trans hl
    refine ⟨?_, ?_, ?_, ?_⟩ <;> simp [World.cell?, e1, e2]))
  clear hp hd hl
  have hB0 := Below.refl w2.heap.size w2
  obtain ⟨c1, c2, c3, c4⟩ := HD.out w2 hB0
  go_enter Try.func36, Try.ntmps36
  go_wp2
  rw [← hw2]
  clear hw2 hB0
  go_quiet (fail)
  have hB0 : Below w2.heap.size w2 (w2.drewN nq) := below_drewN nq (Below.refl _ _)
  generalize w2.drewN nq = w3 at *
  clear c1 c2 c3 c4
  go_wp2
  go_loopw [7, 8, 9] (fun x y i wr => ∃ k : Nat, k ≤ ps.length ∧ i = .int .i64 k ∧ x = .int .u64 ((delP (ps.take k) key).length + 1 : Nat) ∧ y = .int .u64 (totP (delP (ps.take k) key) + (key.size + value.size) : Nat) ∧ Below w2.heap.size w2 wr) (fun _ _ i _ => ps.length - (intOf i).toNat)
  case atStart => exact ⟨0, Nat.zero_le _, rfl, rfl, by simp [delP, totP], hB0⟩
  case round =>
    obtain ⟨k, hk, rfl, rfl, rfl, hB⟩ := hrel
    clear hB0
    obtain ⟨c1, c2, c3, c4⟩ := HD.out _ hB
    have hdl := delP_le (ps.take k) key
    have hTk : (ps.take k).length ≤ k := by simp; omega
    have hTl := totP_le (ps := delP (ps.take k) key) (fun q hq => hsm q (List.mem_of_mem_take (mem_delP.1 hq).1))
    by_cases hk2 : k < ps.length
    · obtain ⟨p, hpk⟩ : ∃ p, ps[k]? = some p := ⟨_, List.getElem?_eq_getElem hk2⟩
      obtain ⟨g, off, rfl, hg, hc⟩ := (HP.out.below hB).2.2.resolve_left (by omega)
      obtain ⟨d1, d2⟩ := hc k p hpk
      have hp1 := (hsm p (List.mem_of_getElem? hpk))
      have hdt := delP_take hpk key
      obtain ⟨p1, p2⟩ := p
      simp only at d1 d2 hp1 hdt
      generalize hA : delP (ps.take k) key = A at *
      have HD2 := Lib.hid hdt
      clear hc hpk hsm hdt
      by_cases heq : p1 = key
      · have hne : (!p1.toList == key.toList) = false := by rw [strEq]; simp [heq]
        have HE : Hid (delP (ps.take (k + 1)) key = A) := Lib.hid (by rw [HD2.out, if_pos heq])
        clear HD2
        go_wp2
        go_quiet (fail)
        go_wp2
        go_roundw
        case rel => exact ⟨k + 1, by omega, by go_num, by rw [HE.out], by rw [HE.out], below_drewN _ hB⟩
        case measure => simp [intOf]; omega
      · have hne : (!p1.toList == key.toList) = true := by rw [strEq]; simp [heq]
        have HE : Hid (delP (ps.take (k + 1)) key = A ++ [(p1, p2)]) := Lib.hid (by rw [HD2.out, if_neg heq])
        clear HD2
        go_wp2
        go_quiet (fail)
        go_wp2
        go_quiet (fail)
        go_wp2
        go_roundw
        case rel => exact ⟨k + 1, by omega, by go_num, by rw [HE.out]; exact congrArg _ (by simp), by rw [HE.out]; exact congrArg _ (by simp [totP_append, totP]; omega), (by first | exact below_drewN _ hB | exact below_drewN _ (below_drewN _ hB))⟩
        case measure => simp [intOf]; omega
    · obtain rfl : k = ps.length := by omega
      rw [List.take_of_length_le (Nat.le_refl _)] at hTl hdl ⊢
      clear hsm
      generalize hA : delP ps key = A at *
      have hBw := Below.trans hB2 (hB.mono (by omega))
      by_cases q1 : K < A.length + 1
      · have i1 : (K : Int) < (A.length : Int) + 1 := by omega
        go_wp2
        go_ret
        exact ⟨ret_bool (by rw [hA]; simp [q1]), hBw⟩
      · have i1 : ¬ (K : Int) < (A.length : Int) + 1 := by omega
        by_cases q2 : M < totP A + (key.size + value.size)
        · have i2 : (M : Int) < (totP A : Int) + ((key.size : Int) + (value.size : Int)) := by omega
          go_wp2
          go_ret
          exact ⟨ret_bool (by simp [q2]), hBw⟩
        · have i2 : ¬ (M : Int) < (totP A : Int) + ((key.size : Int) + (value.size : Int)) := by omega
          go_wp2
          go_ret
          exact ⟨ret_bool (by simp [q1, q2]), hBw⟩

end Go.Proofs.Ytgfhaldfjnepmaa
