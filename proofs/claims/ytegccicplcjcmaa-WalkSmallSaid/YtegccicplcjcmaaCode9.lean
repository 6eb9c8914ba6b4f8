/- Walk of the reference's Decode. -/
import Derived.Test.YtegccicplcjcmaaCodeC8
namespace Go.Proofs.Ytegccicplcjcmaa
open Go Go.RowKit Go.Shelf Go.Proofs Go.Sort
attribute [local go_sem] Oper.semAt_some

theorem getD_by (s : ByteArray) (k : Nat) (h : k < s.size) : (by_ s).getD k 0 = s[k] := by
  rw [List.getD_eq_getElem?_getD, List.getElem?_eq_getElem (by rw [size_by]; exact h)]
  rfl

theorem strip_keep (s : ByteArray) (k : Nat) (h : k < s.size) (hn : ¬ (0 < k ∧ (by_ s).getD k 0 = 1 ∧ (by_ s).getD (k - 1) 0 = 0)) : bs (stripN (by_ s) k) ++ s.extract k (k + 1) = bs (stripN (by_ s) (k + 1)) := by
  rw [ext_one s k h, bs_append, stripN_succ, if_neg hn, getD_by s k h]
theorem strip_drop (s : ByteArray) (k : Nat) (hy : 0 < k ∧ (by_ s).getD k 0 = 1 ∧ (by_ s).getD (k - 1) 0 = 0) : stripN (by_ s) k = stripN (by_ s) (k + 1) := by
  rw [stripN_succ, if_pos hy]
theorem strip_length (s : List UInt8) : ∀ k, (stripN s k).length ≤ k
  | 0 => Nat.le_refl _
  | k + 1 => by
    rw [stripN_succ]
    have := strip_length s k
    split
    · omega
    · rw [List.length_append, List.length_singleton]; omega

set_option maxRecDepth 100000 in
set_option maxHeartbeats 4000000 in
theorem refdecode_any (s : ByteArray) (w : World) (hs : s.size ≤ 281474976710656) :
    Calls Try.prog 30 #[.string s] w fun e w' => e = .returned (decV s) ∧ w = w' := by
  obtain ⟨N, hN⟩ : ∃ N, N = min s.size 100 := ⟨_, rfl⟩
  have hN1 : N ≤ s.size := by omega
  have hN2 : N ≤ 100 := by omega
  have HK := Lib.hid (strip_keep s)
  have HD := Lib.hid (strip_drop s)
  have HG := Lib.hid (getD_by s)
  have HL := Lib.hid (fun k => (show (bs (stripN (by_ s) k)).size ≤ k by rw [size_bs]; exact strip_length _ _))
  have HR : Hid (decV s = (if (stripN (by_ s) N).length < 2 then .tuple #[.string ⟨#[]⟩, .int .i64 4] else
      if ((stripN (by_ s) N).take ((stripN (by_ s) N).length - 2)).length ≤ 16 ∧ encC ((stripN (by_ s) N).take ((stripN (by_ s) N).length - 2)) = by_ s then .tuple #[.string (bs ((stripN (by_ s) N).take ((stripN (by_ s) N).length - 2))), .int .i64 0] else .tuple #[.string ⟨#[]⟩, .int .i64 4])) := Lib.hid (by
    unfold decV
    rw [← refDecL_eq]
    unfold refDecL
    rw [size_by, ← hN]
    simp only
    split
    · rename_i h
      split at h
      · cases h
      · rename_i h2
        rw [if_neg h2]
        split at h
        · rename_i h3
          rw [if_pos h3]
          cases h
          rfl
        · cases h
    · rename_i h
      split at h
      · rename_i h2
        rw [if_pos h2]
      · rename_i h2
        rw [if_neg h2]
        split at h
        · cases h
        · rename_i h3
          rw [if_neg h3])
  go_enter Try.func30, Try.ntmps30
  go_wp2_with fail
  go_loop [4, 5] (fun o i => ∃ k : Nat, k ≤ N ∧ i = .int .i64 k ∧ o = .string (bs (stripN (by_ s) k))) (fun _ i => N - (intOf i).toNat)
  case atStart => exact ⟨0, Nat.zero_le _, rfl, by simp [bs, stripN]⟩
  case round =>
    obtain ⟨k, hk, rfl, rfl⟩ := hrel
    have hsz := HL.out k
    by_cases hkN : k < N
    · have k1 : k < s.size := by omega
      have k2 : (k : Int) < 100 := by omega
      by_cases hd : 0 < k ∧ (by_ s).getD k 0 = 1 ∧ (by_ s).getD (k - 1) 0 = 0
      · have hst := HD.out k hd
        obtain ⟨j, rfl⟩ : ∃ j, k = j + 1 := ⟨k - 1, by omega⟩
        have e1 : s[j + 1].toNat = 1 := by rw [← HG.out _ k1, hd.2.1]; rfl
        have k3 : j < s.size := by omega
        have e0 : s[j].toNat = 0 := by rw [← HG.out _ k3]; have := hd.2.2; rw [Nat.add_sub_cancel] at this; rw [this]; rfl
        have hjj : ((j + 1 : Nat) : Int) - 1 = (j : Int) := by omega
        have hpos : decide ((0 : Int) < ((j + 1 : Nat) : Int)) = true := decide_eq_true (by omega)
        clear hN hd
        go_wp2_with fail
        go_round
        case rel => exact ⟨j + 1 + 1, by omega, by go_num, by rw [← hst]⟩
        case measure => simp [intOf] <;> omega
      · have hst := HK.out k k1 hd
        clear hN
        rcases Nat.eq_zero_or_pos k with h0 | h0
        · subst h0
          clear hd
          go_wp2_with fail
          go_round
          case rel => exact ⟨0 + 1, by omega, by go_num, by rw [← hst]⟩
          case measure => simp [intOf] <;> omega
        · obtain ⟨j, rfl⟩ : ∃ j, k = j + 1 := ⟨k - 1, by omega⟩
          have k3 : j < s.size := by omega
          have hjj : ((j + 1 : Nat) : Int) - 1 = (j : Int) := by omega
          have hpos : decide ((0 : Int) < ((j + 1 : Nat) : Int)) = true := decide_eq_true (by omega)
          by_cases h1 : s[j + 1] = 1
          · have e1 : s[j + 1].toNat = 1 := by rw [h1]; rfl
            have e0 : ¬ s[j].toNat = 0 := fun e => hd ⟨h0, by rw [HG.out _ k1, h1], by rw [Nat.add_sub_cancel, HG.out _ k3]; exact UInt8.toNat_inj.1 (by simpa using e)⟩
            clear hd h1
            go_wp2_with fail
            go_round
            case rel => exact ⟨j + 1 + 1, by omega, by go_num, by rw [← hst]⟩
            case measure => simp [intOf] <;> omega
          · have e1 : ¬ s[j + 1].toNat = 1 := fun e => h1 (UInt8.toNat_inj.1 (by simpa using e))
            clear hd h1
            go_wp2_with fail
            go_round
            case rel => exact ⟨j + 1 + 1, by omega, by go_num, by rw [← hst]⟩
            case measure => simp [intOf] <;> omega
    · obtain rfl : k = N := by omega
      obtain ⟨K, hK⟩ : ∃ K, K = stripN (by_ s) k := ⟨_, rfl⟩
      rw [← hK] at hsz HR ⊢
      rw [size_bs] at hsz
      have hguard : (k < s.size ∧ ¬ ((k : Int) < 100)) ∨ ¬ k < s.size := by omega
      clear hN HK HD HG HL hK
      by_cases hl2 : K.length < 2
      · have HV : Hid (decV s = .tuple #[.string ⟨#[]⟩, .int .i64 4]) := Lib.hid (by rw [HR.out, if_pos hl2])
        have hbs : (bs K).size < 2 := by rw [size_bs]; exact hl2
        clear HR
        rcases hguard with ⟨g1, g2⟩ | g1
        all_goals
          go_wp2_with fail
          refine bodyPost_ret (v := decV s) (by rw [HV.out]; simp [results, Try.f30, go_sem]) rfl ⟨rfl, rfl⟩
      · have hbs : ¬ (bs K).size < 2 := by rw [size_bs]; exact hl2
        have hex : (bs K).extract 0 (K.length - 2) = bs (K.take (K.length - 2)) := by rw [extract_bs, by_bs, List.drop_zero]
        have hsb := size_bs K
        by_cases h16 : (K.take (K.length - 2)).length ≤ 16
        · have HE : Hid (encV (bs (K.take (K.length - 2))) = .tuple #[.string (bs (encC (K.take (K.length - 2)))), .int .i64 0]) := Lib.hid (by unfold encV; rw [if_pos (by rw [size_bs]; exact h16), by_bs])
          by_cases hc : encC (K.take (K.length - 2)) = by_ s
          · have HV : Hid (decV s = .tuple #[.string (bs (K.take (K.length - 2))), .int .i64 0]) := Lib.hid (by rw [HR.out, if_neg hl2, if_pos ⟨h16, hc⟩])
            have hcmp : (bs (encC (K.take (K.length - 2)))).toList = s.toList := by rw [hc, bs_by]
            clear HR hc
            generalize bs (encC (K.take (K.length - 2))) = back at HE hcmp
            generalize bs (K.take (K.length - 2)) = key at HE hex HV
            rcases hguard with ⟨g1, g2⟩ | g1
            all_goals
              go_wp2_with (go_at_call 33; refine (refenc_any _ _).mono ?_; rintro e w' ⟨rfl, rfl⟩; rw [HE.out])
              refine bodyPost_ret (v := decV s) (by rw [HV.out]; simp [results, Try.f30, go_sem]) rfl ⟨rfl, rfl⟩
          · have HV : Hid (decV s = .tuple #[.string ⟨#[]⟩, .int .i64 4]) := Lib.hid (by rw [HR.out, if_neg hl2, if_neg (fun h => hc h.2)])
            have hcmp : ((bs (encC (K.take (K.length - 2)))).toList == s.toList) = false := beq_eq_false_iff_ne.2 (fun e => hc (by rw [toList_bs, toList_by] at e; exact e))
            clear HR hc
            generalize bs (encC (K.take (K.length - 2))) = back at HE hcmp
            generalize bs (K.take (K.length - 2)) = key at HE hex
            rcases hguard with ⟨g1, g2⟩ | g1
            all_goals
              go_wp2_with (go_at_call 33; refine (refenc_any _ _).mono ?_; rintro e w' ⟨rfl, rfl⟩; rw [HE.out])
              refine bodyPost_ret (v := decV s) (by rw [HV.out]; simp [results, Try.f30, go_sem]) rfl ⟨rfl, rfl⟩
        · have HE : Hid (encV (bs (K.take (K.length - 2))) = .tuple #[.string ⟨#[]⟩, .int .i64 3]) := Lib.hid (by unfold encV; rw [if_neg (by rw [size_bs]; exact h16)])
          have HV : Hid (decV s = .tuple #[.string ⟨#[]⟩, .int .i64 4]) := Lib.hid (by rw [HR.out, if_neg hl2, if_neg (fun h => h16 h.1)])
          clear HR h16
          generalize bs (K.take (K.length - 2)) = key at HE hex
          rcases hguard with ⟨g1, g2⟩ | g1
          all_goals
            go_wp2_with (go_at_call 33; refine (refenc_any _ _).mono ?_; rintro e w' ⟨rfl, rfl⟩; rw [HE.out])
            refine bodyPost_ret (v := decV s) (by rw [HV.out]; simp [results, Try.f30, go_sem]) rfl ⟨rfl, rfl⟩
end Go.Proofs.Ytegccicplcjcmaa
