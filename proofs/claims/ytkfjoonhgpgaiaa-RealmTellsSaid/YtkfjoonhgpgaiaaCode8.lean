/- Walks of code.Encode, code.Is and the reference's Decode. -/
import Derived.Test.YtkfjoonhgpgaiaaCode7
namespace Go.Proofs.Ytkfjoonhgpgaiaa
open Go Go.RowKit Go.Shelf Go.Proofs Go.Sort
attribute [local go_sem] Oper.semAt_some

theorem outBox_alloc {n₀ B : Nat} {l : List UInt8} {W : World} (h : OutBox n₀ B l W) (o : Obj) : OutBox n₀ B l (W.alloc o) :=
  outBox_kept h (World.grownBy_alloc W o none) (fun j e _ => by cases e)
theorem outBox_lt {n₀ B : Nat} {l : List UInt8} {W : World} (h : OutBox n₀ B l W) : B < W.heap.size := by
  obtain ⟨v, hv, _⟩ := h
  exact hv.lt

theorem cells_new' (W : World) (vs : List Value) (t : TypeId) : ∀ j u, vs[j]? = some u → (W.alloc (.cells vs.toArray t)).cell? ((⟨W.heap.size, 0, none⟩ : Addr).add j) = some u := by
  intro j u hu
  rw [Addr.add_lit, Nat.zero_add]
  unfold World.cell?
  rw [World.alloc_heap_new]
  simpa using hu

set_option maxRecDepth 100000 in
set_option maxHeartbeats 4000000 in
theorem encode_any (s : ByteArray) (w : World) (hs : s.size ≤ 281474976710656) :
    Calls Try.prog 30 #[.string s] w fun e w' => e = .returned (encV s) ∧ Below w.heap.size w w' := by
  have hmf : ∀ (fn : Fn) (first cap : Array Value) (w : World), (Instr.makeFunc fn first cap).run Try.prog w = .ok (.func fn first cap) w := fun _ _ _ _ => rfl
  by_cases h16 : s.size ≤ 16
  · have HV : Hid (encV s = .tuple #[.string (bs (encL (by_ s) ++ [0, 0])), .int .i64 0]) := Lib.hid (by unfold encV; rw [if_pos h16]; rfl)
    have HSZ := Lib.hid (fun k => (show (encL ((by_ s).take k)).length ≤ 32 by
      have := (encL_length ((by_ s).take k)).2
      rw [List.length_take, size_by] at this; omega))
    have HT : Hid ((by_ s).take s.size = by_ s) := Lib.hid (by rw [List.take_of_length_le (by rw [size_by]; omega)])
    have H0 : Hid (∀ k (h : k < s.size), s[k] = 0 → encL ((by_ s).take k) ++ [0] ++ [1] = encL ((by_ s).take (k + 1))) := Lib.hid (fun k h h0 => by
      rw [take_by s k h, encL_append, encL_one, if_pos h0, List.append_assoc]; rfl)
    have H1 : Hid (∀ k (h : k < s.size), s[k] ≠ 0 → encL ((by_ s).take k) ++ [s[k]] = encL ((by_ s).take (k + 1))) := Lib.hid (fun k h h0 => by
      rw [take_by s k h, encL_append, encL_one, if_neg h0])
    have hB0 := (Below.refl w.heap.size w).alloc (Nat.le_refl _) (.cells #[.slice none 0 0] 44)
    have hO0 : OutBox w.heap.size w.heap.size [] (w.alloc (.cells #[.slice none 0 0] 44)) := ⟨_, Boxed.new _ _ _, World.ownsRow_nil _ _ _ _, .inl rfl⟩
    go_enter Try.func30, Try.ntmps30
    go_wp2_with fail
    go_loopw [13] (fun i wr => ∃ k : Nat, k ≤ s.size ∧ i = .int .i64 k ∧ OutBox w.heap.size w.heap.size (encL ((by_ s).take k)) wr ∧ Below w.heap.size w wr) (fun i _ => s.size - (intOf i).toNat)
    case atStart => exact ⟨0, Nat.zero_le _, rfl, by simpa [encL] using hO0, hB0⟩
    case round =>
      clear hO0 hB0
      obtain ⟨k, hk, rfl, hO, hB⟩ := hrel
      have hlt := outBox_lt hO
      have hsz := HSZ.out k
      by_cases hk2 : k < s.size
      · by_cases hz : s[k] = 0
        · have h2 := Lib.hid (H0.out k hk2 hz)
          have hz2 : s[k].toNat = 0 := by rw [hz]; rfl
          have hO1 := outBox_alloc hO (.cells #[.int .u8 0] 5)
          have hc1 := put_any w.heap.size w.heap.size wr.heap.size 1 1 (encL ((by_ s).take k)) [0] _ hO1 (by simp; omega) (Nat.le_refl _) rfl (by decide) (cell_one_new' _ _ _) (by omega)
          clear hz
          go_wp2_with (go_at_call 52; first
            | (refine hc1.mono ?_; clear hc1; rintro e w1 ⟨⟨v, rfl⟩, hO2, hB2⟩; have hlt2 := outBox_lt hO2; have hc2 := put_any w.heap.size w.heap.size w1.heap.size 1 1 (encL ((by_ s).take k) ++ [0]) [1] _ (outBox_alloc hO2 (.cells #[.int .u8 1] 5)) (by simp; omega) (Nat.le_refl _) rfl (by decide) (cell_one_new' _ _ _) (by simp; omega))
            | (refine hc2.mono ?_; clear hc2; rintro e w2 ⟨⟨v2, rfl⟩, hO3, hB3⟩))
          go_roundw
          case rel => exact ⟨k + 1, by omega, by go_num, by rw [← h2.out]; exact hO3, (((hB.alloc (by omega) _).trans hB2).alloc (by omega) _).trans hB3⟩
          case measure => simp [intOf]; omega
        · have h2 := Lib.hid (H1.out k hk2 hz)
          have hz2 : ¬ s[k].toNat = 0 := fun e => hz (UInt8.toNat_inj.1 (by simpa using e))
          have hO1 := outBox_alloc hO (.cells #[.int .u8 (s[k].toNat : Nat)] 5)
          have hc1 := put_any w.heap.size w.heap.size wr.heap.size 1 1 (encL ((by_ s).take k)) [s[k]] _ hO1 (by simp; omega) (Nat.le_refl _) rfl (by decide) (cell_one_new' _ _ _) (by omega)
          clear hz
          go_wp2_with (go_at_call 52; (refine hc1.mono ?_; clear hc1; rintro e w1 ⟨⟨v, rfl⟩, hO2, hB2⟩))
          go_roundw
          case rel => exact ⟨k + 1, by omega, by go_num, by rw [← h2.out]; exact hO2, (hB.alloc (by omega) _).trans hB2⟩
          case measure => simp [intOf]; omega
      · obtain rfl : k = s.size := by omega
        rw [HT.out] at hO hsz
        have hO1 := outBox_alloc hO (.cells #[.int .u8 0, .int .u8 0] 5)
        have hc1 := put_any w.heap.size w.heap.size wr.heap.size 2 2 (encL (by_ s)) [0, 0] _ hO1 (by simp; omega) (Nat.le_refl _) rfl (by decide) (cells_new' wr [.int .u8 0, .int .u8 0] _) (by omega)
        go_wp2_with (go_at_call 52; (refine hc1.mono ?_; clear hc1; rintro e w1 ⟨⟨v, rfl⟩, hO2, hB2⟩; obtain ⟨v4, hv, hrow, hn⟩ := hO2; have kv := hv.cell; have hcv := own_conv hrow))
        refine bodyPost_ret (v := encV s) (by rw [HV.out]; simp [results, Try.f30, go_sem]) rfl ⟨rfl, (hB.alloc (by omega) _).trans hB2⟩
  · have HV : Hid (encV s = .tuple #[.string ⟨#[]⟩, .int .i64 3]) := Lib.hid (by unfold encV; rw [if_neg h16])
    have h16' : (16 : Int) < s.size := by omega
    clear h16
    go_enter Try.func30, Try.ntmps30
    go_wp2_with fail
    refine bodyPost_ret (v := encV s) (by rw [HV.out]; simp [results, Try.f30, go_sem]) rfl ⟨rfl, Below.refl _ _⟩

/-- Whether Decode accepts. -/
def decB (s : ByteArray) : Bool := (decL (by_ s)).isSome

theorem decV_parts (s : ByteArray) : ∃ t e, decV s = .tuple #[.string t, .int .i64 e] ∧ (e == 0) = decB s ∧ (∀ xs, decL (by_ s) = some xs → t = bs xs ∧ e = 0) ∧ (decL (by_ s) = none → t = ⟨#[]⟩ ∧ e = 4) := by
  unfold decV decB
  cases decL (by_ s) with
  | none => exact ⟨_, _, rfl, rfl, by simp, by simp⟩
  | some xs => exact ⟨_, _, rfl, rfl, by simp, by simp⟩

theorem is_any (s : ByteArray) (w : World) (hs : s.size ≤ 281474976710656) :
    Calls Try.prog 32 #[.string s] w fun e w' => e = .returned (.bool (decB s)) ∧ Below w.heap.size w w' := by
  obtain ⟨t, e, hV, he, -, -⟩ := decV_parts s
  have HE := Lib.hid he
  clear he
  go_enter Try.func32, Try.ntmps32
  go_wp2_with (go_at_call 31; refine (decode_any _ _ hs).mono ?_; rw [hV]; rintro e w' ⟨rfl, hn⟩)
  go_ret
  exact ⟨ret_bool HE.out, hn⟩
end Go.Proofs.Ytkfjoonhgpgaiaa
