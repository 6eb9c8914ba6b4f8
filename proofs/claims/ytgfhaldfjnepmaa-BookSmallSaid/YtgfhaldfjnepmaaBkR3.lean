/- Walks: Has, Get, Keys, Bytes of the reference model of a book. -/
import Derived.Test.YtgfhaldfjnepmaaBkR2
namespace Go.Proofs.Ytgfhaldfjnepmaa
open Go Go.RowKit Go.Shelf Go.Proofs
attribute [local go_sem] Oper.semAt_some

set_option maxRecDepth 100000 in
set_option maxHeartbeats 4000000 in
theorem refhas_any (a : Option Addr) (len cap K M : Nat) (ps : PS) (w : World) (h : IsPairs w a len ps) (hl : len < 100000) (hs : SortedP ps) (s : ByteArray) :
    Calls Try.prog 88 #[.agg #[.slice a len cap, .int .u64 K, .int .u64 M], .string s] w fun e w' => e = .returned (.bool (getP ps s).isSome) ∧ Below w.heap.size w w' := by
  obtain ⟨w1, hw1⟩ : ∃ w1, w1 = w.alloc (.cells #[.slice a len cap, .int .u64 K, .int .u64 M] 62) := ⟨_, rfl⟩
  have hB1 : Below w.heap.size w w1 := by rw [hw1]; exact (Below.refl _ _).alloc (Nat.le_refl _) _
  have hs1 : w1.heap.size = w.heap.size + 1 := by rw [hw1]; simp
  have HC := Lib.hid (refbox w (.slice a len cap) (.int .u64 K) (.int .u64 M))
  rw [← hw1, ← hs1] at HC
  have HP := Lib.hid (h.below hB1)
  have HA := Lib.hid (refat_any a len cap K M ps w1 HP.out hl hs s)
  rw [hw1] at HA
  have hpl := posP_le ps s
  have hlen := h.1
  have HG := Lib.hid (fun v (hv : getP ps s = some v) => get_at hs hv)
  have HN := Lib.hid (fun (hv : getP ps s = none) p (hp : ps[posP ps s]? = some p) => not_at hv hp)
  generalize posP ps s = N at hpl HG HN HA
  clear h
  by_cases hk2 : N < len
  · obtain ⟨p, hpk⟩ : ∃ p, ps[N]? = some p := ⟨_, List.getElem?_eq_getElem (by omega)⟩
    have hkey : (getP ps s).isSome = decide (p.1 = s) := by
      cases hg : getP ps s with
      | none => simpa using HN.out hg p hpk
      | some v => have := (HG.out v hg).1; rw [hpk] at this; cases this; simp
    rw [hkey]
    have HPK := Lib.hid hpk
    have HQ := Lib.hid (fun W (hb : Below w1.heap.size w1 W) => (HP.out.below hb).2.2.resolve_left (by omega))
    obtain ⟨g, off, rfl, hg, _⟩ := HQ.out _ (Below.refl _ _)
    have HE := Lib.hid (fun W (hb : Below w1.heap.size w1 W) => show W.cell? ⟨g, off + N * 2, none⟩ = some (.string p.1) by
      obtain ⟨g', off', e, _, hc⟩ := HQ.out W hb
      cases e
      exact (hc N p hpk).1)
    obtain ⟨p1, p2⟩ := p
    simp only at HE ⊢
    rw [← strEq]
    clear hpk hkey HPK HG HN
    go_enter Try.func88, Try.ntmps88
    go_wp2_with (go_at_call 70; refine HA.out.mono ?_; rintro e w3 ⟨rfl, hn3⟩; rw [← hw1] at hn3; obtain ⟨c0, c1, c2⟩ := HC.out _ hn3; have c3 := HE.out _ hn3)
    go_ret
    exact ⟨rfl, hB1.trans (hn3.mono (by omega))⟩
  · obtain rfl : N = len := by omega
    have hkey : (getP ps s).isSome = false := by
      cases hg : getP ps s with
      | none => rfl
      | some v => have := (HG.out v hg).2; omega
    rw [hkey]
    clear hkey HG HN
    go_enter Try.func88, Try.ntmps88
    go_wp2_with (go_at_call 70; refine HA.out.mono ?_; rintro e w3 ⟨rfl, hn3⟩; rw [← hw1] at hn3; obtain ⟨c0, c1, c2⟩ := HC.out _ hn3)
    go_ret
    exact ⟨rfl, hB1.trans (hn3.mono (by omega))⟩

theorem getE_big {ps : PS} {s : ByteArray} (h : ¬ s.size ≤ 16) : getE ps s = 2 ∧ getV ps s = ⟨#[]⟩ := by
  have e : ¬ mayE s [] = 0 := fun e => h (mayE_zero.1 e).1
  have e2 : mayE s [] = 2 := (mayE_or s []).resolve_left e
  unfold getE getV thereE thereV
  rw [if_neg e, if_neg e, e2]
  exact ⟨rfl, rfl⟩

theorem getE_small {ps : PS} {s : ByteArray} (h : s.size ≤ 16) : getE ps s = (match getP ps s with | none => 5 | some _ => 0) ∧ getV ps s = (getP ps s).getD ⟨#[]⟩ := by
  have e : mayE s [] = 0 := mayE_zero.2 ⟨h, by simp⟩
  unfold getE getV thereE thereV
  rw [if_pos e, if_pos e]
  exact ⟨rfl, rfl⟩

set_option maxRecDepth 100000 in
set_option maxHeartbeats 4000000 in
theorem refget_any (a : Option Addr) (len cap K M : Nat) (ps : PS) (w : World) (h : IsPairs w a len ps) (hl : len < 100000) (hs : SortedP ps) (s : ByteArray) (hsz : s.size ≤ 140737488351232) :
    Calls Try.prog 67 #[.agg #[.slice a len cap, .int .u64 K, .int .u64 M], .string s] w fun e w' => e = .returned (.tuple #[.string (getV ps s), .int .i64 (getE ps s)]) ∧ Below w.heap.size w w' := by
  obtain ⟨w1, hw1⟩ : ∃ w1, w1 = w.alloc (.cells #[.slice a len cap, .int .u64 K, .int .u64 M] 62) := ⟨_, rfl⟩
  have hB1 : Below w.heap.size w w1 := by rw [hw1]; exact (Below.refl _ _).alloc (Nat.le_refl _) _
  have hs1 : w1.heap.size = w.heap.size + 1 := by rw [hw1]; simp
  by_cases h16 : s.size ≤ 16
  · have i16 : ¬ (16 : Int) < (s.size : Int) := by omega
    have HC := Lib.hid (refbox w (.slice a len cap) (.int .u64 K) (.int .u64 M))
    rw [← hw1, ← hs1] at HC
    have HP := Lib.hid (h.below hB1)
    have HA := Lib.hid (fun W (hb : Below w1.heap.size w1 W) => refat_any a len cap K M ps W (HP.out.below hb) hl hs s)
    have HH := Lib.hid (refhas_any a len cap K M ps w1 HP.out hl hs s)
    have hlen := h.1
    have HG := Lib.hid (fun v (hv : getP ps s = some v) => get_at hs hv)
    obtain ⟨q1, q2⟩ := getE_small (ps := ps) h16
    rw [q1, q2]
    clear q1 q2 h h16
    cases hg : getP ps s with
    | none =>
      rw [hg] at HH
      rw [hw1] at HH
      simp only [Option.getD_none]
      go_enter Try.func67, Try.ntmps67
      go_wp2_with (go_at_call 88; refine HH.out.mono ?_; rintro e w3 ⟨rfl, hn3⟩; rw [← hw1] at hn3)
      go_ret2
      exact ⟨rfl, hB1.trans (hn3.mono (by omega))⟩
    | some v =>
      rw [hg] at HH
      rw [hw1] at HH
      obtain ⟨hpk, hN⟩ := HG.out v hg
      rw [hlen] at hN
      simp only [Option.getD_some]
      clear hg HG
      have HQ := Lib.hid (fun W (hb : Below w1.heap.size w1 W) => (HP.out.below hb).2.2.resolve_left (by omega))
      obtain ⟨g, off, rfl, hgs, _⟩ := HQ.out _ (Below.refl _ _)
      have HE := Lib.hid (fun W (hb : Below w1.heap.size w1 W) => show W.cell? ⟨g, off + posP ps s * 2 + 1, none⟩ = some (.string v) by
        obtain ⟨g', off', e, _, hc⟩ := HQ.out W hb
        cases e
        exact (hc _ _ hpk).2)
      generalize posP ps s = N at hpk hN HE HA
      clear hpk
      go_enter Try.func67, Try.ntmps67
      go_wp2_with (go_at_call 88; refine HH.out.mono ?_; rintro e w3 ⟨rfl, hn3⟩; rw [← hw1] at hn3; obtain ⟨c0, c1, c2⟩ := HC.out _ hn3; have c3 := HE.out _ hn3)
      have k0 := fun dd os => cell_regrown c0 dd os
      have k1 := fun dd os => cell_regrown c1 dd os
      have k2 := fun dd os => cell_regrown c2 dd os
      have k3 := fun dd os => cell_regrown c3 dd os
      have HA3 := Lib.hid (fun W (hb : Below w3.heap.size w3 W) => HA.out W (hn3.trans (hb.mono hn3.size)))
      refine wp_region_quiet_below (by kernel_rfl) (by kernel_rfl) ?_
      repeat (go_big_quiet_step (first | (go_at_call 70; exact Calls.regrown_of (HA3.out _ (below_regrown _ _ _)))))
      refine wpQuiet_nil ?_
      intro _ hw'
      obtain ⟨⟨dq, osq⟩, rfl⟩ := hw'
      have hg8 := below_regrown w3 dq osq
      clear k0 k1 k2 k3
      generalize Sort.grow (redrawn w3 dq) osq = w8 at hg8 ⊢
      go_wp2
      go_ret2
      exact ⟨rfl, hB1.trans ((hn3.trans (hg8.mono hn3.size)).mono (by omega))⟩
  · have i16 : (16 : Int) < (s.size : Int) := by omega
    obtain ⟨q1, q2⟩ := getE_big (ps := ps) h16
    rw [q1, q2]
    clear h q1 q2
    go_enter Try.func67, Try.ntmps67
    go_wp2
    go_ret2
    rw [← hw1]
    exact ⟨rfl, hB1⟩

theorem refkeys_any (a : Option Addr) (len cap K M : Nat) (w : World) (hl : len < 100000) :
    Calls Try.prog 68 #[.agg #[.slice a len cap, .int .u64 K, .int .u64 M]] w fun e w' => e = .returned (.int .u64 (len : Nat)) ∧ Below w.heap.size w w' := by
  have hB1 : Below w.heap.size w (w.alloc (.cells #[.slice a len cap, .int .u64 K, .int .u64 M] 62)) := (Below.refl _ _).alloc (Nat.le_refl _) _
  have hw := wrap64 len (by omega)
  go_enter Try.func68, Try.ntmps68
  go_wp2
  go_ret
  exact ⟨by first | rfl | (rw [hw]), hB1⟩

set_option maxRecDepth 100000 in
set_option maxHeartbeats 4000000 in
theorem refbytes_any (a : Option Addr) (len cap K M : Nat) (ps : PS) (w : World) (h : IsPairs w a len ps) (hl : len < 100000) (hsm : ∀ p ∈ ps, p.1.size ≤ 16 ∧ p.2.size ≤ 32) :
    Calls Try.prog 69 #[.agg #[.slice a len cap, .int .u64 K, .int .u64 M]] w fun e w' => e = .returned (.int .u64 (totP ps : Nat)) ∧ Below w.heap.size w w' := by
  obtain ⟨w1, hw1⟩ : ∃ w1, w1 = w.alloc (.cells #[.slice a len cap, .int .u64 K, .int .u64 M] 62) := ⟨_, rfl⟩
  have hB1 : Below w.heap.size w w1 := by rw [hw1]; exact (Below.refl _ _).alloc (Nat.le_refl _) _
  have hs1 : w1.heap.size = w.heap.size + 1 := by rw [hw1]; simp
  have HC := Lib.hid (refbox w (.slice a len cap) (.int .u64 K) (.int .u64 M))
  rw [← hw1, ← hs1] at HC
  have HP := Lib.hid (h.below hB1)
  have hlen := h.1
  have hB0 := Below.refl w1.heap.size w1
  clear h
  go_enter Try.func69, Try.ntmps69
  go_wp2
  rw [← hw1]
  clear hw1
  go_loopw [3, 4] (fun t i wr => ∃ k : Nat, k ≤ len ∧ i = .int .i64 k ∧ t = .int .u64 (totP (ps.take k) : Nat) ∧ Below w1.heap.size w1 wr) (fun _ i _ => len - (intOf i).toNat)
  case atStart => exact ⟨0, Nat.zero_le _, rfl, rfl, hB0⟩
  case round =>
    obtain ⟨k, hk, rfl, rfl, hB⟩ := hrel
    clear hB0
    obtain ⟨c0, c1, c2⟩ := HC.out _ hB
    by_cases hk2 : k < len
    · obtain ⟨p, hpk⟩ : ∃ p, ps[k]? = some p := ⟨_, List.getElem?_eq_getElem (by omega)⟩
      obtain ⟨g, off, rfl, hg, hc⟩ := (HP.out.below hB).2.2.resolve_left (by omega)
      obtain ⟨e1, e2⟩ := hc k p hpk
      have hp1 := (hsm p (List.mem_of_getElem? hpk))
      have hT := totP_take hpk
      have hTl := totP_le (ps := ps.take k) (fun q hq => hsm q (List.mem_of_mem_take hq))
      have hTk : (ps.take k).length ≤ k := by simp; omega
      obtain ⟨p1, p2⟩ := p
      simp only at e1 e2 hp1 hT
      generalize totP (ps.take k) = T at *
      generalize hT2 : totP (ps.take (k + 1)) = T2 at *
      have hkeep := Lib.hid (fun (t : Int) (ht : t = (T2 : Nat)) => (show Value.int .u64 t = .int .u64 (totP (ps.take (k + 1)) : Nat) by rw [ht, hT2]))
      clear hT2 hpk hsm hc
      have hcast : ((T2 : Nat) : Int) = (T : Int) + ((p1.size : Int) + (p2.size : Int)) := by omega
      go_wp2
      go_quiet (fail)
      go_wp2
      go_roundw
      case rel => exact ⟨k + 1, by omega, by go_num, hkeep.out _ (by rw [hcast]), below_drewN _ hB⟩
      case measure => simp [intOf]; omega
    · obtain rfl : k = len := by omega
      go_wp2
      go_ret
      exact ⟨by rw [List.take_of_length_le (by omega)]; rfl, hB1.trans (hB.mono (by omega))⟩

end Go.Proofs.Ytgfhaldfjnepmaa
