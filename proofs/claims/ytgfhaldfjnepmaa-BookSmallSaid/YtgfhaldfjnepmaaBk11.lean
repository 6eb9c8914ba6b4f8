/- Walk: Put. -/
import Derived.Test.YtgfhaldfjnepmaaBk10
namespace Go.Proofs.Ytgfhaldfjnepmaa
open Go Go.RowKit Go.Shelf Go.Proofs Go.ChangeMaps Go.MapKept
attribute [local go_sem] Oper.semAt_some

theorem isstrs_one_alloc (w : World) (x : ByteArray) (hx : x.size ≤ 1000) : IsStrs (w.alloc (.cells #[.string x] 9)) (some ⟨w.heap.size, 0, none⟩) 1 1 [x] := isstrs1 (hasB_new rfl) hx

theorem below_drewN {w w' : World} {B : Nat} (q : Nat) (h : Below B w w') : Below B w (w'.drewN q) := ⟨h.os, h.tape, h.output, h.size, h.block⟩

/-- What Put sees behind 'may': the look-up's answer. -/
theorem look_either {B b m : Nat} {v : Value} {K M : Nat} {ps : PS} {w : World} (h : BookAt w B b m v K M ps) {s : ByteArray} (hs : s.size ≤ 1000) :
    (getP ps s = none ∧ (Instr.lookup 91 (.map (some m)) (.string s) true).run Try.prog w = .ok (.tuple #[.slice none 0 0, .bool false]) w) ∨
    (∃ u a cap, getP ps s = some u ∧ u.size ≤ 32 ∧ (Instr.lookup 91 (.map (some m)) (.string s) true).run Try.prog w = .ok (.tuple #[.slice a u.size cap, .bool true]) w ∧ (convert 74 9 (.slice a u.size cap)).run Try.prog w = .ok (.string u) w) := by
  cases hg : getP ps s with
  | none => exact .inl ⟨rfl, look_none h hs hg⟩
  | some u =>
    obtain ⟨x, hb, h1, _⟩ := look_some h hs hg
    have hc := bytesAt_conv hb
    obtain ⟨a, cap, rfl⟩ := bytesAt_shape hb
    exact .inr ⟨u, _, cap, rfl, (h.small _ (getP_mem hg)).2, h1, hc⟩

set_option maxRecDepth 100000 in
set_option maxHeartbeats 4000000 in
theorem put_any {B b m : Nat} {v : Value} {K M : Nat} {ps : PS} (w : World) (h : BookAt w B b m v K M ps) (hn : ps.length < 90000) (hBs : B ≤ w.heap.size) (s x : ByteArray) (hs : s.size ≤ 1000) (hx : x.size ≤ 1000) :
    Calls Try.prog 48 #[.pointer (some ⟨b, 0, none⟩), .string s, .string x] w fun e w' => e = .returned (.int .i64 (putE K M ps s x)) ∧ ∃ v', BookAt w' B b m v' K M (putQ K M ps s x) ∧ Turned b m v w v' w' := by
  have hw1 := (Below.refl w.heap.size w).alloc (Nat.le_refl _) (Obj.cells #[.string x] 9)
  have HM := Lib.hid (may_any (w.alloc (.cells #[.string x] 9)) (h.below hw1) s (some ⟨w.heap.size, 0, none⟩) 1 1 [x] hs (isstrs_one_alloc w x hx) (by omega))
  have HB := Lib.hid (fun w' (hb : Below w.heap.size w w') => h.below hb)
  rcases mayE_or s [x] with e0 | e2
  · rw [e0] at HM
    obtain ⟨z1, z2⟩ := mayE_zero.1 e0
    have z3 : x.size ≤ 32 := z2 x (by simp)
    have htot := totP_le h.small
    have hKM := And.intro h.hK h.hM
    have hKM2 := And.intro h.keys h.bytes
    have hso := h.sorted
    obtain ⟨ka, kc, rfl⟩ := row_slice h.row
    have HC := Lib.hid (fun w' (hb : Below w.heap.size w w') => (h.below hb).cell)
    have HBS := h.bytes
    cases hg : getP ps s with
    | none =>
      have HL := Lib.hid (fun w' (hb : Below w.heap.size w w') => look_none (h.below hb) hs hg)
      obtain ⟨p1, p2⟩ := len_put_absent hso x hg
      have hE : putE K M ps s x = if K < ps.length + 1 ∨ M < totP ps + (s.size + x.size) then 10 else 0 := by unfold putE; rw [e0, p1, p2]; simp
      by_cases q1 : K < ps.length + 1 ∨ M < totP ps + (s.size + x.size)
      · have hE2 : putE K M ps s x = 10 := by rw [hE, if_pos q1]
        have hQ : putQ K M ps s x = ps := by unfold putQ; rw [hE2]; simp
        rw [hE2, hQ]
        clear h
        generalize ps.length = n at *
        generalize totP ps = T at *
        rcases Nat.lt_or_ge K (n + 1) with q2 | q2
        · have i1 : (K : Int) < (n : Int) + 1 := by omega
          go_enter Try.func48, Try.ntmps48
          go_wp2_with (first
            | (go_at_call 62; refine HM.out.mono ?_; rintro e w' ⟨rfl, hn1⟩; have hb := hw1.trans (hn1.mono (by simp)); obtain ⟨c1, c2, c3, c4, c5, _⟩ := HC.out w' hb)
            | fail)
          go_quiet (fail)
          clear c1 c2 c3 c4 c5
          have hb3 := below_drewN nq hb
          clear hb
          generalize w'.drewN nq = w3 at *
          obtain ⟨c1, c2, c3, c4, c5, _⟩ := HC.out w3 hb3
          have hl := HL.out w3 hb3
          go_wp2_with (go_at_call 78; refine (size_any _ _ _ (by omega) (by omega)).mono ?_; rintro e w' ⟨rfl, rfl⟩)
          go_ret
          exact ⟨rfl, _, HB.out _ hb3, Turned.of_below hb3⟩

        · have i1 : ¬ (K : Int) < (n : Int) + 1 := by omega
          have i2 : (M : Int) < (T : Int) + ((s.size : Int) + (x.size : Int)) := by omega
          go_enter Try.func48, Try.ntmps48
          go_wp2_with (first
            | (go_at_call 62; refine HM.out.mono ?_; rintro e w' ⟨rfl, hn1⟩; have hb := hw1.trans (hn1.mono (by simp)); obtain ⟨c1, c2, c3, c4, c5, _⟩ := HC.out w' hb)
            | fail)
          go_quiet (fail)
          clear c1 c2 c3 c4 c5
          have hb3 := below_drewN nq hb
          clear hb
          generalize w'.drewN nq = w3 at *
          obtain ⟨c1, c2, c3, c4, c5, _⟩ := HC.out w3 hb3
          have hl := HL.out w3 hb3
          go_wp2_with (go_at_call 78; refine (size_any _ _ _ (by omega) (by omega)).mono ?_; rintro e w' ⟨rfl, rfl⟩)
          go_ret
          exact ⟨rfl, _, HB.out _ hb3, Turned.of_below hb3⟩

      · have hE2 : putE K M ps s x = 0 := by rw [hE, if_neg q1]
        have hQ : putQ K M ps s x = putP ps s x := by unfold putQ; rw [hE2]; simp
        have hKok : (putP ps s x).length ≤ K := by omega
        have hMok : totP (putP ps s x) ≤ M := by omega
        have hn' := hn
        rw [hE2, hQ]
        clear h
        have hcast : ((totP (putP ps s x) : Nat) : Int) = ((totP ps : Nat) : Int) + ((s.size : Int) + (x.size : Int)) := by omega
        have i1 : ¬ (K : Int) < ((ps.length : Nat) : Int) + 1 := by omega
        have i2 : ¬ (M : Int) < ((totP ps : Nat) : Int) + ((s.size : Int) + (x.size : Int)) := by omega
        go_enter Try.func48, Try.ntmps48
        go_wp2_with (first
          | (go_at_call 62; refine HM.out.mono ?_; rintro e w' ⟨rfl, hn1⟩; have hb := hw1.trans (hn1.mono (by simp)); obtain ⟨c1, c2, c3, c4, c5, _⟩ := HC.out w' hb)
          | fail)
        go_quiet (fail)
        clear c1 c2 c3 c4 c5
        have hb3 := below_drewN nq hb
        clear hb
        generalize w'.drewN nq = w3 at *
        obtain ⟨c1, c2, c3, c4, c5, _⟩ := HC.out w3 hb3
        have hl := HL.out w3 hb3
        go_wp2_with (first
          | (go_at_call 78; refine (size_any _ _ _ (by omega) (by omega)).mono ?_; rintro e w' ⟨rfl, rfl⟩)
          | (go_at_call 79
             refine (add_any _ (HB.out _ hb3) hn' (by have := hb3.size; omega) s x).mono ?_
             rintro e w4 ⟨rfl, v', r1, r2, r3⟩
             obtain ⟨v0, st, es1, clock1, es2, clock2, k1, k2, k3, k4, k5, k6⟩ := book_whole (HB.out _ hb3) hn' z1 z3 hKok hMok r1 r2 r3
             rw [hcast] at k5 k6
             simp only [goInt] at k1 k2
             have d1 : w4.cell? ⟨b, 1, none⟩ = some (.map (some m)) := by simp [World.cell?, r1]
             have hcv := Lib.run_convert_string_bytes (P := Try.prog) w4 9 74 5 x Try.underlying9 Try.underlying74 Try.underlying5))
        go_ret
        exact ⟨rfl, v', k5, Turned.trans (Turned.of_below hb3) k6⟩
    | some u =>
      have HL := Lib.hid (fun w' (hb : Below w.heap.size w w') => look_some (h.below hb) hs hg)
      obtain ⟨p1, p2⟩ := len_put_present hso x hg
      have hu32 : u.size ≤ 32 := (h.small _ (getP_mem hg)).2
      have hut := getP_tot hso hg
      have hE : putE K M ps s x = if M < totP (putP ps s x) then 10 else 0 := by
        unfold putE; rw [e0, p1]; simp [show ¬ K < ps.length from by omega]
      by_cases q1 : M < totP (putP ps s x)
      · have hE2 : putE K M ps s x = 10 := by rw [hE, if_pos q1]
        have hQ : putQ K M ps s x = ps := by unfold putQ; rw [hE2]; simp
        rw [hE2, hQ]
        clear h
        have i1 : ¬ (K : Int) < ((ps.length : Nat) : Int) := by omega
        have i2 : (M : Int) < ((totP ps : Nat) : Int) - ((s.size : Int) + (u.size : Int)) + ((s.size : Int) + (x.size : Int)) := by omega
        go_enter Try.func48, Try.ntmps48
        go_wp2_with (first
          | (go_at_call 62; refine HM.out.mono ?_; rintro e w' ⟨rfl, hn1⟩; have hb := hw1.trans (hn1.mono (by simp)); obtain ⟨c1, c2, c3, c4, c5, _⟩ := HC.out w' hb)
          | fail)
        go_quiet (fail)
        clear c1 c2 c3 c4 c5
        have hb3 := below_drewN nq hb
        clear hb
        generalize w'.drewN nq = w3 at *
        obtain ⟨c1, c2, c3, c4, c5, _⟩ := HC.out w3 hb3
        obtain ⟨y, hy, hl, _⟩ := HL.out w3 hb3
        have hcy := bytesAt_conv hy
        obtain ⟨ya, ycap, rfl⟩ := bytesAt_shape hy
        clear hy
        go_wp2_with (go_at_call 78; refine (size_any _ _ _ (by omega) (by omega)).mono ?_; rintro e w' ⟨rfl, rfl⟩)
        go_ret
        exact ⟨rfl, _, HB.out _ hb3, Turned.of_below hb3⟩

      · have hE2 : putE K M ps s x = 0 := by rw [hE, if_neg q1]
        have hQ : putQ K M ps s x = putP ps s x := by unfold putQ; rw [hE2]; simp
        have hKok : (putP ps s x).length ≤ K := by omega
        have hMok : totP (putP ps s x) ≤ M := by omega
        have hn' := hn
        rw [hE2, hQ]
        clear h
        have hcast : ((totP (putP ps s x) : Nat) : Int) = ((totP ps : Nat) : Int) - ((s.size : Int) + (u.size : Int)) + ((s.size : Int) + (x.size : Int)) := by omega
        have i1 : ¬ (K : Int) < ((ps.length : Nat) : Int) := by omega
        have i2 : ¬ (M : Int) < ((totP ps : Nat) : Int) - ((s.size : Int) + (u.size : Int)) + ((s.size : Int) + (x.size : Int)) := by omega
        go_enter Try.func48, Try.ntmps48
        go_wp2_with (first
          | (go_at_call 62; refine HM.out.mono ?_; rintro e w' ⟨rfl, hn1⟩; have hb := hw1.trans (hn1.mono (by simp)); obtain ⟨c1, c2, c3, c4, c5, _⟩ := HC.out w' hb)
          | fail)
        go_quiet (fail)
        clear c1 c2 c3 c4 c5
        have hb3 := below_drewN nq hb
        clear hb
        generalize w'.drewN nq = w3 at *
        obtain ⟨c1, c2, c3, c4, c5, _⟩ := HC.out w3 hb3
        obtain ⟨y, hy, hl, _⟩ := HL.out w3 hb3
        have hcy := bytesAt_conv hy
        obtain ⟨ya, ycap, rfl⟩ := bytesAt_shape hy
        clear hy
        go_wp2_with (first
          | (go_at_call 78; refine (size_any _ _ _ (by omega) (by omega)).mono ?_; rintro e w' ⟨rfl, rfl⟩)
          | (go_at_call 79
             refine (add_any _ (HB.out _ hb3) hn' (by have := hb3.size; omega) s x).mono ?_
             rintro e w4 ⟨rfl, v', r1, r2, r3⟩
             obtain ⟨v0, st, es1, clock1, es2, clock2, k1, k2, k3, k4, k5, k6⟩ := book_whole (HB.out _ hb3) hn' z1 z3 hKok hMok r1 r2 r3
             rw [hcast] at k5 k6
             simp only [goInt] at k1 k2
             have d1 : w4.cell? ⟨b, 1, none⟩ = some (.map (some m)) := by simp [World.cell?, r1]
             have hcv := Lib.run_convert_string_bytes (P := Try.prog) w4 9 74 5 x Try.underlying9 Try.underlying74 Try.underlying5))
        go_ret
        exact ⟨rfl, v', k5, Turned.trans (Turned.of_below hb3) k6⟩
  · rw [e2] at HM
    have hq : putE K M ps s x = 2 := by unfold putE; rw [e2]; simp
    have hq2 : putQ K M ps s x = ps := by unfold putQ; rw [hq]; simp
    rw [hq, hq2]
    clear h
    go_enter Try.func48, Try.ntmps48
    go_wp2_with (go_at_call 62; refine HM.out.mono ?_; rintro e w' ⟨rfl, hn1⟩)
    go_ret
    have hb := hw1.trans (hn1.mono (by simp))
    exact ⟨rfl, v, HB.out _ hb, Turned.of_below hb⟩

end Go.Proofs.Ytgfhaldfjnepmaa
