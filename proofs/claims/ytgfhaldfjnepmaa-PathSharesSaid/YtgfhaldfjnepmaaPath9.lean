/- Walk of PathShares. -/
import Derived.Test.YtgfhaldfjnepmaaPath8
import Derived.Lib.QuietBelow
namespace Go.Proofs.Ytgfhaldfjnepmaa
open Go Go.RowKit Go.Shelf Go.Proofs
attribute [local go_sem] Oper.semAt_some
attribute [local go_sem ↓] Go.wp_at_zero Go.wp_at_succ

theorem shares_facts (s0 : ByteArray) (r : List ByteArray) (k : Nat) (N : Nat) (hN : N = allL (s0 :: r)) (hk : k < (s0 :: r).length) :
    beginsB ((s0 :: r).getD k ByteArray.empty) (s0.extract 0 N) = true := by
  have h := (shares_each s0 r).2 ((s0 :: r).getD k ByteArray.empty) (by
    rw [List.getD_eq_getElem?_getD, List.getElem?_eq_getElem hk]; exact List.getElem_mem _)
  rw [hN, extract_bs, List.drop_zero]
  exact h

theorem all_take_succ (ss : List ByteArray) (k : Nat) (f : ByteArray → Bool) (hk : k < ss.length) : (ss.take (k + 1)).all f = ((ss.take k).all f && f (ss.getD k ByteArray.empty)) := by
  rw [List.take_succ_eq_append_getElem hk, List.all_append, List.getD_eq_getElem?_getD, List.getElem?_eq_getElem hk]
  simp

set_option maxRecDepth 100000 in
set_option maxHeartbeats 4000000 in
theorem law_PathShares (a : Option Addr) (len cap : Nat) (ss : List ByteArray) (turn : Int) (ht : -9223372036854775808 ≤ turn ∧ turn ≤ 9223372036854775807) (w : World) (hs : IsStrs w a len cap ss) :
    Calls Try.prog 4 #[.slice a len cap, .int .i64 turn] w fun e w' => e = .returned (.bool true) ∧ Below w.heap.size w w' := by
  clear ht
  have hB := Below.refl w.heap.size w
  by_cases h0 : len = 0
  · subst h0
    clear hs
    go_enter Try.func4, Try.ntmps4
    go_wp2_with (go_at_call 15; refine (awake10 _).mono ?_; rintro e w' ⟨rfl, hn⟩; replace hB := below_chain hB hn; clear hn)
    go_ret
    exact ⟨rfl, hB⟩
  have hne0 : ((len : Int) == 0) = false := by simp; omega
  by_cases hl : len ≤ 60
  · have HS := Lib.hid (fun w' (hb : Below w.heap.size w w') => hs.below hb (Nat.le_refl _))
    obtain ⟨s0, r, hss⟩ : ∃ s0 r, ss = s0 :: r := by
      cases ss with
      | nil => have := hs.1; simp at this; omega
      | cons s r => exact ⟨s, r, rfl⟩
    have h1 := Lib.hid hs.1
    have h4 := Lib.hid hs.2.2.2.1
    have hlc := hs.2.1
    have hz : ss.getD 0 ByteArray.empty = s0 := by rw [hss]; rfl
    obtain ⟨b, off, rfl, HC⟩ : ∃ b off, a = some ⟨b, off, none⟩ ∧ Hid (∀ w', Below w.heap.size w w' → ∀ j, j < len → w'.cell? ⟨b, off + j, none⟩ = some (.string (ss.getD j ByteArray.empty))) := by
      rcases hs.2.2.2.2 with h | ⟨b, off, rfl, hbl, hc⟩
      · omega
      · exact ⟨b, off, rfl, Lib.hid (fun w' hb j hj => (hb.cell (p := ⟨b, off + j, none⟩) hbl).trans (hc j hj))⟩
    have hs0 : s0.size ≤ 140737488351232 := h4.out _ (by rw [hss]; simp)
    clear hs
    obtain ⟨N, hN⟩ : ∃ N, N = allL ss := ⟨_, rfl⟩
    have hNs : N ≤ s0.size := by rw [hN, hss]; exact (shares_each s0 r).1
    have HN := Lib.hid hN
    have HSS := Lib.hid hss
    clear hN hss
    go_enter Try.func4, Try.ntmps4
    go_wp2_with (go_at_call 15; refine (awake10 _).mono ?_; rintro e w' ⟨rfl, hn⟩; replace hB := below_chain hB hn; clear hn)
    go_loopw [5] (fun i wr => ∃ k : Nat, k ≤ len ∧ i = .int .i64 k ∧ Below w.heap.size w wr) (fun i _ => len - (intOf i).toNat)
    case atStart => exact ⟨0, Nat.zero_le _, rfl, hB⟩
    case round =>
      clear hB
      obtain ⟨k, hk, rfl, hB⟩ := hrel
      by_cases hk2 : k < len
      · have hck := HC.out wr hB k hk2
        have hsz : (ss.getD k ByteArray.empty).size ≤ 140737488351232 := by
          rw [List.getD_eq_getElem?_getD, List.getElem?_eq_getElem (by rw [h1.out]; exact hk2)]
          exact h4.out _ (List.getElem_mem _)
        obtain ⟨s, hsk⟩ : ∃ s, ss.getD k ByteArray.empty = s := ⟨_, rfl⟩
        rw [hsk] at hck hsz
        clear hsk hz
        by_cases h2000 : s.size ≤ 2000
        · go_wp2_with fail
          go_roundw
          case rel => exact ⟨k + 1, by omega, by go_num, hB⟩
          case measure => simp [intOf]; omega
        · have h2000' : (2000 : Int) < s.size := by omega
          clear h2000
          go_wp2
          go_ret
          exact ⟨rfl, hB⟩
      · obtain rfl : len = k := by omega
        have hc0 := HC.out _ hB 0 (by omega)
        rw [hz] at hc0
        rw [Nat.add_zero] at hc0
        go_wp2_with (first
          | (go_at_call 17; refine (all_any _ _ _ _ _ (HS.out _ hB) (by omega)).mono ?_; rintro e w2 ⟨rfl, hn2⟩; have hB2 := hB.trans (hn2.mono hB.size); have hc2 := HC.out _ hB2 0 (by omega); rw [hz, Nat.add_zero] at hc2; rw [← HN.out]))
        have HC2 := Lib.hid (fun w' (hb : Below w2.heap.size w2 w') => HC.out w' (hB2.trans (hb.mono hB2.size)))
        clear hB hc0 hn2
        go_loopw [7, 8] (fun M i wr => ∃ k : Nat, k ≤ len ∧ i = .int .i64 k ∧ M = .bool (decide (N < s0.size) && (ss.take k).all (fun s => beginsB s (bs ((by_ s0).take (N + 1))))) ∧ Below w2.heap.size w2 wr) (fun _ i _ => len - (intOf i).toNat)
        case atStart => exact ⟨0, Nat.zero_le _, rfl, by simp, Below.refl _ _⟩
        case round =>
          obtain ⟨k, hk, rfl, rfl, hB⟩ := hrel
          obtain ⟨M, hM⟩ : ∃ M, M = (decide (N < s0.size) && (ss.take k).all (fun s => beginsB s (bs ((by_ s0).take (N + 1))))) := ⟨_, rfl⟩
          rw [← hM]
          by_cases hk3 : k < len
          · have hck := HC2.out wr hB k hk3
            have hc0 := HC2.out wr hB 0 (by omega)
            rw [hz, Nat.add_zero] at hc0
            have q1 := fun d os => cell_regrown hck d os
            have q0 := fun d os => cell_regrown hc0 d os
            have hbg := shares_facts s0 r k N (by rw [HN.out, HSS.out]) (by rw [← HSS.out, h1.out]; exact hk3)
            rw [← HSS.out] at hbg
            obtain ⟨s, hsk⟩ : ∃ s, ss.getD k ByteArray.empty = s := ⟨_, rfl⟩
            rw [hsk] at hbg q1
            have hnx := all_take_succ ss k (fun s => beginsB s (bs ((by_ s0).take (N + 1)))) (by rw [h1.out]; exact hk3)
            have HM : Hid ((decide (N < s0.size) && (ss.take (k + 1)).all (fun s => beginsB s (bs ((by_ s0).take (N + 1))))) = (M && beginsB s (bs ((by_ s0).take (N + 1))))) := Lib.hid (by rw [hnx, hM, Bool.and_assoc, hsk])
            have HMN : M = true → N < s0.size := fun h => by rw [hM] at h; simp at h; exact h.1
            have HBG := Lib.hid hbg
            clear hck hc0 hsk hnx hM hbg
            cases M with
            | false =>
              clear HMN
              go_wp2_with fail
              refine wp_region_quiet_below (by kernel_rfl) (by kernel_rfl) ?_
              repeat (go_big_quiet_step (exact Calls.regrown_of ((begins_any _ _ _).mono (fun e w' h => ⟨by rw [h.1, HBG.out], by rw [← h.2]; exact Below.refl _ _⟩))))
              refine wpQuiet_nil ?_
              intro _ hw'
              obtain ⟨⟨dq, osq⟩, hw''⟩ := hw'
              subst hw''
              go_wp2_with fail
              refine wp_region_quiet_below (by kernel_rfl) (by kernel_rfl) ?_
              repeat (go_big_quiet_step (fail))
              refine wpQuiet_nil ?_
              intro _ hw'
              obtain ⟨⟨dq2, osq2⟩, hw''⟩ := hw'
              subst hw''
              go_wp2_with fail
              go_roundw
              case rel => exact ⟨k + 1, by omega, by go_num, by rw [HM.out]; rfl, below_chain (hB.trans ((below_regrown wr dq osq).mono hB.size)) (below_regrown _ dq2 osq2)⟩
              case measure => simp [intOf]; omega
            | true =>
              have hlt := HMN rfl
              clear HMN
              have hwr : IntKind.i64.wrap ((N : Int) + 1) = (N : Int) + 1 := by rw [IntKind.wrap_i64]; omega
              have hmin : min ((N : Int) + 1) (s0.size : Int) = (N : Int) + 1 := by omega
              have hex : s0.extract 0 (N + 1) = bs ((by_ s0).take (N + 1)) := by rw [extract_bs, List.drop_zero]
              go_wp2_with fail
              refine wp_region_quiet_below (by kernel_rfl) (by kernel_rfl) ?_
              repeat (go_big_quiet_step (exact Calls.regrown_of ((begins_any _ _ _).mono (fun e w' h => ⟨by rw [h.1, HBG.out], by rw [← h.2]; exact Below.refl _ _⟩))))
              refine wpQuiet_nil ?_
              intro _ hw'
              obtain ⟨⟨dq, osq⟩, hw''⟩ := hw'
              subst hw''
              go_wp2_with fail
              have q1b := fun d os => cell_regrown (q1 dq osq) d os
              have q0b := fun d os => cell_regrown (q0 dq osq) d os
              clear q1 q0
              refine wp_region_quiet_below (by kernel_rfl) (by kernel_rfl) ?_
              repeat (go_big_quiet_step (exact Calls.regrown_of ((begins_any _ _ _).mono (fun e w' h => ⟨by rw [h.1], by rw [← h.2]; exact Below.refl _ _⟩))))
              refine wpQuiet_nil ?_
              intro _ hw'
              obtain ⟨⟨dq2, osq2⟩, hw''⟩ := hw'
              subst hw''
              go_wp2_with fail
              go_roundw
              case rel => exact ⟨k + 1, by omega, by go_num, by rw [HM.out]; simp, below_chain (hB.trans ((below_regrown wr dq osq).mono hB.size)) (below_regrown _ dq2 osq2)⟩
              case measure => simp [intOf]; omega
          · obtain rfl : len = k := by omega
            obtain rfl : M = false := by
              rw [hM, ← h1.out, List.take_length]
              cases hlt : decide (N < s0.size) with
              | false => rfl
              | true =>
                obtain ⟨s, hsm, hsf⟩ := shares_more s0 r (by rw [← HSS.out, ← HN.out]; exact of_decide_eq_true hlt)
                rw [← HSS.out, ← HN.out] at hsf
                rw [← HSS.out] at hsm
                rw [Bool.true_and]
                exact List.all_eq_false.2 ⟨s, hsm, by rw [hsf]; simp⟩
            clear hM hk3 hk
            have hB3 := hB2.trans (hB.mono hB2.size)
            clear hB hc2
            go_wp2_with (go_at_call 21; refine (pick_any _ _ _ (by omega) (by omega)).mono ?_; rintro e w3 ⟨⟨kk, rfl, hkk, -⟩, rfl⟩; have hck := HC.out wr hB3 kk (by omega))
            clear h1
            have c1 : (0 : Int) ≤ (kk : Int) := by omega
            have c2 : (kk : Int) ≤ (len : Int) := by omega
            have c3 : (kk : Int) ≤ (cap : Int) := by omega
            have c4 : ¬ cap = kk := by omega
            obtain ⟨s, hsk⟩ : ∃ s, ss.getD kk ByteArray.empty = s := ⟨_, rfl⟩
            rw [hsk] at hck
            have hln := Lib.hid (show ss.length = len from HSS.out ▸ (by have := (HS.out w (Below.refl _ _)).1; rw [HSS.out] at this; exact this))
            have hsm : s ∈ ss := by
              rw [← hsk, List.getD_eq_getElem?_getD, List.getElem?_eq_getElem (by rw [hln.out]; omega)]
              exact List.getElem_mem _
            have hsz : Hid (∀ x ∈ ss.drop kk ++ ss.take kk ++ [s], x.size ≤ 140737488351232) := Lib.hid (fun x hx => h4.out x (by
              rw [List.mem_append, List.mem_append] at hx
              rcases hx with (hx | hx) | hx
              · exact List.mem_of_mem_drop hx
              · exact List.mem_of_mem_take hx
              · rw [List.mem_singleton] at hx; rw [hx]; exact hsm))
            have hperm : Hid (allL (ss.drop kk ++ ss.take kk ++ [s]) = N) := Lib.hid (by
              rw [HN.out]
              refine allL_same _ _ (by simp) (by rw [HSS.out]; simp) (fun x => ?_)
              rw [List.mem_append, List.mem_append]
              constructor
              · rintro ((hx | hx) | hx)
                · exact List.mem_of_mem_drop hx
                · exact List.mem_of_mem_take hx
                · rw [List.mem_singleton] at hx; rw [hx]; exact hsm
              · intro hx
                rw [← List.take_append_drop kk ss, List.mem_append] at hx
                rcases hx with hx | hx
                · exact .inl (.inr hx)
                · exact .inl (.inl hx))
            have HN1 : Hid (∀ w', Below wr.heap.size wr w' → ∀ j u, ((ss.drop kk).map Value.string)[j]? = some u → w'.cell? ((⟨b, off + kk, none⟩ : Addr).add j) = some u) := Lib.hid (fun w' hb j u hu => by
              rw [List.getElem?_map, List.getElem?_drop] at hu
              have hj : kk + j < ss.length := by
                rcases Nat.lt_or_ge (kk + j) ss.length with h | h
                · exact h
                · rw [List.getElem?_eq_none h] at hu; cases hu
              have h := HC.out w' (hB3.trans (hb.mono hB3.size)) (kk + j) (by rw [← hln.out]; exact hj)
              rw [List.getD_eq_getElem?_getD] at h
              rw [List.getElem?_eq_getElem hj] at hu h
              rw [Addr.add_lit, Nat.add_assoc, h]
              exact hu)
            have HN2 : Hid (∀ w', Below wr.heap.size wr w' → ∀ j u, ((ss.take kk).map Value.string)[j]? = some u → w'.cell? ((⟨b, off, none⟩ : Addr).add j) = some u) := Lib.hid (fun w' hb j u hu => by
              rw [List.getElem?_map, List.getElem?_take] at hu
              have hj : j < kk ∧ j < ss.length := by
                by_cases h : j < kk
                · rw [if_pos h] at hu
                  rcases Nat.lt_or_ge j ss.length with h2 | h2
                  · exact ⟨h, h2⟩
                  · rw [List.getElem?_eq_none h2] at hu; cases hu
                · rw [if_neg h] at hu; cases hu
              have h := HC.out w' (hB3.trans (hb.mono hB3.size)) j (by rw [← hln.out]; exact hj.2)
              rw [List.getD_eq_getElem?_getD] at h
              rw [if_pos hj.1] at hu
              rw [List.getElem?_eq_getElem hj.2] at hu h
              rw [Addr.add_lit, h]
              exact hu)
            have hl1 : (ss.drop kk).length = len - kk := by rw [List.length_drop, hln.out]
            have hl2 : (ss.take kk).length = kk := by rw [List.length_take, hln.out]; omega
            have HS0 := Lib.hid hck
            clear hsm hsk
            go_region_held3 (fun w' => w'.cell? ⟨b, off + kk, none⟩ = some (.string s) ∧ Below wr.heap.size wr w')
              ((refine keepS HS0.out ?_; first | assumption | exact Below.refl _ _ | exact (Below.refl _ _).drew | (go_split_ands; assumption) | (refine below_ald _ rfl ?_; first | exact Below.refl _ _ | exact (Below.refl _ _).drew | (go_split_ands; first | assumption | (refine below_undrew ?_; assumption))) | (refine below_al _ rfl ?_; first | exact Below.refl _ _ | exact (Below.refl _ _).drew | (go_split_ands; first | assumption | (refine below_undrew ?_; assumption)))))
              (first
                | ((go_split_ands; refine step_app (by rfl) _ _ (by rfl) wr _ 0 [] (by rfl) _ _ _ (ss.drop kk) (by rfl) (by assumption) (own_empty' wr _ _ (by omega) (by first | exact heap_alloc_new _ _ | exact heap_al2 _ _ _ | exact heap_al1 _ _ _)) hl1 (HN1.out _ (by assumption)) (by omega) ?_; intro v1 wa hown1 hgrow1 hat1 hbel1))
                | ((go_split_ands; refine step_app (by rfl) _ _ (by rfl) wr v1 _ (ss.drop kk) (by rfl) _ _ _ (ss.take kk) (by rfl) (by assumption) (by first | exact hown1 | exact hown1.alloc _ | exact (hown1.alloc _).drew | exact hown1.drew) hl2 (HN2.out _ (by assumption)) (by omega) ?_; intro v2 wb hown2 hgrow2 hat2 hbel2))
                | ((go_split_ands; refine step_app (by rfl) _ _ (by rfl) wr v2 _ (ss.drop kk ++ ss.take kk) (by rfl) _ _ _ [s] (by rfl) (by assumption) (by first | exact hown2 | exact hown2.alloc _ | exact (hown2.alloc _).drew | exact hown2.drew) (by rfl) (by first
                    | exact one_at (heap_alloc_new _ _)
                    | exact one_far (one_at (heap_alloc_new _ _)) (by simp) hgrow2 (own_ne hown1 (Nat.le_refl _))
                    | exact two_far hgrow1 hgrow2 hat1 (by first | exact heap_al1 _ _ _ | exact heap_al2 _ _ _) (by simp <;> omega) (by simp [Value.ownBlock])) (by omega) ?_; intro v3 wc hown3 hgrow3 hat3 hbel3)))
            all_goals
              obtain ⟨g, cap', rfl, hI⟩ := isstrs_own hown3 (by omega) hsz.out
              have hBc := hB3.trans (hbel3.mono hB3.size)
              have HI := Lib.hid hI
              clear hI hown3 hown2 hown1 hgrow1 hgrow2 hgrow3 hat1 hat2 hat3 hbel1 hbel2 hbel3 hB3 hl1 hl2 HS0 HN1 HN2 hck hsz c1 c2 c3 c4 HC HS hz
              rename_i hHeld
              clear hHeld
              rw [show 0 + (len - kk) + kk + 1 = len + 1 by omega] at HI ⊢
              clear hkk hlc hB2
              go_wp2_with (go_at_call 17; refine (all_any _ _ _ _ _ HI.out (by omega)).mono ?_; rintro e w4 ⟨rfl, hn4⟩; rw [hperm.out])
              go_ret
              exact ⟨rfl, hBc.trans (hn4.mono hBc.size)⟩
  · have hl' : (60 : Int) < len := by omega
    clear hl hs
    go_enter Try.func4, Try.ntmps4
    go_wp2_with (go_at_call 15; refine (awake10 _).mono ?_; rintro e w' ⟨rfl, hn⟩; replace hB := below_chain hB hn; clear hn)
    go_ret
    exact ⟨rfl, hB⟩
end Go.Proofs.Ytgfhaldfjnepmaa
