/- Walk of key's iterator. -/
import Derived.Test.YtegccicplcjcmaaCode3
namespace Go.Proofs.Ytegccicplcjcmaa
open Go Go.RowKit Go.Shelf Go.Proofs Go.Sort
attribute [local go_sem] Oper.semAt_some

/-- The place that the reader at R keeps. -/
def placeAt (R : Nat) (W : World) : Nat := (intOf ((W.cell? ⟨R, 1, none⟩).getD undef)).toNat
theorem placeAt_eq {R k : Nat} {W : World} (h : W.cell? ⟨R, 1, none⟩ = some (.int .i64 k)) : placeAt R W = k := by unfold placeAt; rw [h]; simp [intOf]

theorem key_any (R : Nat) (w : World) :
    Calls Try.prog 68 #[.pointer (some ⟨R, 0, none⟩)] w fun e w' => e = .returned (.func (.func 96) #[] #[.pointer (some ⟨w.heap.size, 0, none⟩)]) ∧ w.alloc (.cells #[.pointer (some ⟨R, 0, none⟩)] 132) = w' := by
  go_enter Try.func68, Try.ntmps68
  go_wp2
  go_ret
  exact ⟨rfl, rfl⟩

theorem drop_by (s : ByteArray) (k : Nat) (h : k < s.size) : (by_ s).drop k = s[k] :: (by_ s).drop (k + 1) := by
  rw [List.drop_eq_getElem_cons (by rw [size_by]; exact h)]
  rfl

set_option maxRecDepth 100000 in
set_option maxHeartbeats 4000000 in
theorem key1_in (n : Nat) (hn : 1 ≤ n) (l K R : Nat) (s : ByteArray) (hs : s.size ≤ 281474976710656) (J : List UInt8 → Nat → World → Prop) (Jx : World → Prop)
    (hJb : ∀ pre k W W', J pre k W → Below W.heap.size W W' → J pre k W')
    (hJs : ∀ pre k W, J pre k W → J pre (k + 1) (W.setCell ⟨R, 1, none⟩ (.int .i64 ((k : Int) + 1))))
    (hJc : ∀ pre k W, J pre k W → W.cell? ⟨R, 0, none⟩ = some (.string s) ∧ W.cell? ⟨R, 1, none⟩ = some (.int .i64 k) ∧ W.frozen? ⟨R, 1, none⟩ = false ∧ W.cell? ⟨K, 0, none⟩ = some (.pointer (some ⟨R, 0, none⟩)))
    (hY : ∀ pre k b W, J pre k W → (pre ++ [b]) <+: (scanL (by_ s)).1 → YieldAt Fence.wide (n - 1) Try.prog l #[.int .u8 (b.toNat : Nat)] W fun e W' => (e = .returned (.bool true) ∧ J (pre ++ [b]) k W') ∨ (e = .returned (.bool false) ∧ Jx W'))
    (W : World) (h0 : J [] 0 W) :
    CallsIn Fence.wide n Try.prog 96 #[.func (.yield l) #[] #[], .pointer (some ⟨K, 0, none⟩)] W fun e W' =>
      ((∃ v, e = .returned v) ∧ ((∃ xs r, scanL (by_ s) = (xs, some r) ∧ r.length ≤ s.size ∧ J xs (s.size - r.length) W') ∨ Jx W')) ∨
      (e = .panicked [shapeP] ∧ (scanL (by_ s)).2 = none ∧ ∃ pre k, J pre k W') := by
  have HJb := Lib.hid hJb
  have HJs := Lib.hid hJs
  have HJc := Lib.hid hJc
  have HY := Lib.hid hY
  have HN : Hid (∀ pre k (W1 : World), J pre k W1 → k < s.size → ∀ h : k < s.size, Calls Try.prog 97 #[.pointer (some ⟨R, 0, none⟩)] W1 fun e W' => e = .returned (.int .u8 (s[k].toNat : Nat)) ∧ J pre (k + 1) W') := Lib.hid (fun pre k W1 hj _ h => by
    obtain ⟨a, b, c, _⟩ := hJc _ _ _ hj
    refine (next_ok s R k W1 hs h a b c).mono ?_
    rintro e W' ⟨he, W2, hb1, hb2⟩
    exact ⟨he, hJb _ _ _ _ (hJs _ _ _ (hJb _ _ _ _ hj hb1)) hb2⟩)
  have HE : Hid (∀ pre k (W1 : World), J pre k W1 → k = s.size → Calls Try.prog 97 #[.pointer (some ⟨R, 0, none⟩)] W1 fun e W' => e = .panicked [shapeP] ∧ J pre k W') := Lib.hid (fun pre k W1 hj h => by
    obtain ⟨a, b, c, _⟩ := hJc _ _ _ hj
    refine (next_end s R k W1 hs h a b).mono ?_
    rintro e W' ⟨he, hb1⟩
    exact ⟨he, hJb _ _ _ _ hj hb1⟩)
  clear hJb hJs hJc hY
  refine callsIn_of_wp Try.func96 rfl trivial ?_ rfl
  simp only [Try.ntmps96, List.size_toArray, List.length_cons, List.length_nil, Nat.reduceAdd, Nat.reduceSub, Array.replicate_succ, Array.replicate_zero, List.push_toArray, List.append_toArray, List.nil_append, List.cons_append]
  gi_wp2
  gi_loopw [3] (fun _ wr => ∃ (pre : List UInt8) (k : Nat), k ≤ s.size ∧ J pre k wr ∧ Hid (scanL (by_ s) = (pre ++ (scanL ((by_ s).drop k)).1, (scanL ((by_ s).drop k)).2)))
    (fun _ wr => s.size - placeAt R wr)
  case atStart => exact ⟨[], 0, Nat.zero_le _, h0, Lib.hid (by simp)⟩
  case round =>
    obtain ⟨pre, k, hk, hj, HS⟩ := hrel
    obtain ⟨c0, c1, f1, cK⟩ := HJc.out _ _ _ hj
    have hpl := placeAt_eq c1
    clear h0
    by_cases hk2 : k < s.size
    · have hd1 := drop_by s k hk2
      have hcall := HN.out pre k wr hj hk2 hk2
      by_cases hz : s[k] = 0
      · have hz2 : s[k].toNat = 0 := by rw [hz]; rfl
        rw [hz] at hd1
        by_cases hk3 : k + 1 < s.size
        · have hd2 := drop_by s (k + 1) hk3
          by_cases ho : s[k + 1] = 0
          · have ho2 : s[k + 1].toNat = 0 := by rw [ho]; rfl
            have HF : Hid (scanL (by_ s) = (pre, some ((by_ s).drop (k + 1 + 1))) ∧ ((by_ s).drop (k + 1 + 1)).length ≤ s.size ∧ s.size - ((by_ s).drop (k + 1 + 1)).length = k + 1 + 1) := Lib.hid (by
              refine ⟨by rw [HS.out, hd1, hd2, ho, scanL_end]; simp, ?_, ?_⟩ <;> rw [List.length_drop, size_by] <;> omega)
            clear hd1 hd2 HS hz ho
            gi_wp2_with (refine ⟨trivial, ?_⟩; gi_at_call 97; first
              | (refine (callsIn_wide.2 hcall).mono ?_; clear hcall; rintro e w1 ⟨rfl, hj1⟩; obtain ⟨d0, d1, g1, dK⟩ := HJc.out _ _ _ hj1; have hcall2 := HN.out pre (k + 1) w1 hj1 hk3 hk3)
              | (refine (callsIn_wide.2 hcall2).mono ?_; clear hcall2; rintro e w2 ⟨rfl, hj2⟩))
            refine bodyPost_ret (results_none rfl _ _ _) rfl ?_
            exact .inl ⟨⟨_, rfl⟩, .inl ⟨pre, _, HF.out.1, HF.out.2.1, by rw [HF.out.2.2]; exact hj2⟩⟩
          · have ho2 : ¬ s[k + 1].toNat = 0 := fun e => ho (UInt8.toNat_inj.1 (by simpa using e))
            by_cases h1 : s[k + 1] = 1
            · have h12 : s[k + 1].toNat = 1 := by rw [h1]; rfl
              have HF : Hid (scanL (by_ s) = ((pre ++ [0]) ++ (scanL ((by_ s).drop (k + 1 + 1))).1, (scanL ((by_ s).drop (k + 1 + 1))).2)) := Lib.hid (by
                rw [HS.out, hd1, hd2, h1, scanL_zero]; simp)
              have HP : Hid (pre ++ [0] <+: (scanL (by_ s)).1) := Lib.hid (by rw [HF.out]; exact List.prefix_append _ _)
              clear hd1 hd2 HS hz ho h1
              gi_wp2_with (refine ⟨trivial, ?_⟩; gi_at_call 97; first
                | (refine (callsIn_wide.2 hcall).mono ?_; clear hcall; rintro e w1 ⟨rfl, hj1⟩; obtain ⟨d0, d1, g1, dK⟩ := HJc.out _ _ _ hj1; have hcall2 := HN.out pre (k + 1) w1 hj1 hk3 hk3)
                | (refine (callsIn_wide.2 hcall2).mono ?_; clear hcall2; rintro e w2 ⟨rfl, hj2⟩; obtain ⟨fn, tmps, assign, body, hy, hR⟩ := HY.out pre (k + 1 + 1) 0 w2 hj2 HP.out; have hy : (Instr.yield l #[.int .u8 0]).run Try.prog w2 = .ok (.round l fn tmps assign body) w2 := hy))
              refine hR.mono ?_
              rintro e W3 (⟨rfl, hJ3⟩ | ⟨rfl, hJx3⟩)
              · have c13 := placeAt_eq (HJc.out _ _ _ hJ3).2.1
                gi_wp2
                go_roundw
                case rel => exact ⟨pre ++ [0], k + 1 + 1, by omega, hJ3, HF⟩
                case measure => rw [c13, hpl]; omega
              · gi_wp2
                refine bodyPost_ret (results_none rfl _ _ _) rfl ?_
                exact .inl ⟨⟨_, rfl⟩, .inr hJx3⟩
            · have h12 : ¬ s[k + 1].toNat = 1 := fun e => h1 (UInt8.toNat_inj.1 (by simpa using e))
              have HF : Hid ((scanL (by_ s)).2 = none) := Lib.hid (by rw [HS.out, hd1, hd2, scanL_bad ho h1])
              clear hd1 hd2 HS hz ho h1
              gi_wp2_with (refine ⟨trivial, ?_⟩; gi_at_call 97; first
                | (refine (callsIn_wide.2 hcall).mono ?_; clear hcall; rintro e w1 ⟨rfl, hj1⟩; obtain ⟨d0, d1, g1, dK⟩ := HJc.out _ _ _ hj1; have hcall2 := HN.out pre (k + 1) w1 hj1 hk3 hk3)
                | (refine (callsIn_wide.2 hcall2).mono ?_; clear hcall2; rintro e w2 ⟨rfl, hj2⟩))
              exact ⟨rfl, .inr ⟨rfl, HF.out, pre, _, hj2⟩⟩
        · have hke : k + 1 = s.size := by omega
          have HF : Hid ((scanL (by_ s)).2 = none) := Lib.hid (by
            have hd2 : (by_ s).drop (k + 1) = [] := List.drop_of_length_le (by rw [size_by]; omega)
            rw [HS.out, hd1, hd2, scanL_one])
          clear hd1 HS hz
          gi_wp2_with (refine ⟨trivial, ?_⟩; gi_at_call 97; first
            | (refine (callsIn_wide.2 hcall).mono ?_; clear hcall; rintro e w1 ⟨rfl, hj1⟩; obtain ⟨d0, d1, g1, dK⟩ := HJc.out _ _ _ hj1; have hcall2 := HE.out pre (k + 1) w1 hj1 hke)
            | (refine (callsIn_wide.2 hcall2).mono ?_; clear hcall2; rintro e w2 ⟨rfl, hj2⟩))
          exact ⟨rfl, .inr ⟨rfl, HF.out, pre, _, hj2⟩⟩
      · have hz2 : ¬ s[k].toNat = 0 := fun e => hz (UInt8.toNat_inj.1 (by simpa using e))
        have HF : Hid (scanL (by_ s) = ((pre ++ [s[k]]) ++ (scanL ((by_ s).drop (k + 1))).1, (scanL ((by_ s).drop (k + 1))).2)) := Lib.hid (by
          rw [HS.out, hd1, scanL_byte hz]; simp)
        have HP : Hid (pre ++ [s[k]] <+: (scanL (by_ s)).1) := Lib.hid (by rw [HF.out]; exact List.prefix_append _ _)
        clear hd1 HS hz
        gi_wp2_with (refine ⟨trivial, ?_⟩; gi_at_call 97; (refine (callsIn_wide.2 hcall).mono ?_; clear hcall; rintro e w1 ⟨rfl, hj1⟩; obtain ⟨d0, d1, g1, dK⟩ := HJc.out _ _ _ hj1; obtain ⟨fn, tmps, assign, body, hy, hR⟩ := HY.out pre (k + 1) s[k] w1 hj1 HP.out))
        refine hR.mono ?_
        rintro e W3 (⟨rfl, hJ3⟩ | ⟨rfl, hJx3⟩)
        · have c13 := placeAt_eq (HJc.out _ _ _ hJ3).2.1
          gi_wp2
          go_roundw
          case rel => exact ⟨pre ++ [s[k]], k + 1, by omega, hJ3, HF⟩
          case measure => rw [c13, hpl]; omega
        · gi_wp2
          refine bodyPost_ret (results_none rfl _ _ _) rfl ?_
          exact .inl ⟨⟨_, rfl⟩, .inr hJx3⟩
    · have hke : k = s.size := by omega
      have hcall := HE.out pre k wr hj hke
      have HF : Hid ((scanL (by_ s)).2 = none) := Lib.hid (by
        rw [HS.out, List.drop_of_length_le (by rw [size_by]; omega), scanL_nil])
      clear HS
      gi_wp2_with (refine ⟨trivial, ?_⟩; gi_at_call 97; (refine (callsIn_wide.2 hcall).mono ?_; clear hcall; rintro e w1 ⟨rfl, hj1⟩))
      exact ⟨rfl, .inr ⟨rfl, HF.out, pre, _, hj1⟩⟩
end Go.Proofs.Ytegccicplcjcmaa
