/- Walk: the chapter's example. -/
import Derived.Test.YtegccicplcjcmaaWL2
namespace Go.Proofs.Ytegccicplcjcmaa
open Go Go.RowKit Go.Shelf Go.Proofs
attribute [local go_sem] Oper.semAt_some

def kA : ByteArray := ⟨#[97, 0, 0]⟩
def kAB : ByteArray := ⟨#[97, 98, 0, 0]⟩
def kB : ByteArray := ⟨#[98, 0, 0]⟩
def psk : Nat → PS
  | 0 => []
  | 1 => [(kB, ⟨#[]⟩)]
  | 2 => [(kA, ⟨#[]⟩), (kB, ⟨#[]⟩)]
  | _ => [(kA, ⟨#[]⟩), (kAB, ⟨#[]⟩), (kB, ⟨#[]⟩)]
def keyk : Nat → ByteArray
  | 0 => ⟨#[98]⟩
  | 1 => ⟨#[97]⟩
  | _ => ⟨#[97, 98]⟩

theorem step0 : aputE (codB (keyk 0)) ⟨#[]⟩ = 0 ∧ aputQ (psk 0) (codB (keyk 0)) ⟨#[]⟩ = psk 1 := by decide +kernel
theorem step1 : aputE (codB (keyk 1)) ⟨#[]⟩ = 0 ∧ aputQ (psk 1) (codB (keyk 1)) ⟨#[]⟩ = psk 2 := by decide +kernel
theorem step2 : aputE (codB (keyk 2)) ⟨#[]⟩ = 0 ∧ aputQ (psk 2) (codB (keyk 2)) ⟨#[]⟩ = psk 3 := by decide +kernel
theorem stepk {k : Nat} (h : k < 3) : aputE (codB (keyk k)) ⟨#[]⟩ = 0 ∧ aputQ (psk k) (codB (keyk k)) ⟨#[]⟩ = psk (k + 1) := by
  match k, h with
  | 0, _ => exact step0
  | 1, _ => exact step1
  | 2, _ => exact step2
theorem cod_sz (k : Nat) : (codB (keyk k)).size ≤ 1000 := by
  match k with
  | 0 => decide +kernel
  | 1 => decide +kernel
  | k + 2 => exact (show (codB (keyk 2)).size ≤ 1000 by decide +kernel)
theorem psk_len {k : Nat} (h : k ≤ 3) : (psk k).length = k := by
  match k, h with
  | 0, _ => rfl
  | 1, _ => rfl
  | 2, _ => rfl
  | 3, _ => rfl
theorem cod_a : codB ⟨#[97]⟩ = kA := by decide +kernel
theorem cod_ab : codB ⟨#[97, 98]⟩ = kAB := by decide +kernel
theorem cod_b : codB ⟨#[98]⟩ = kB := by decide +kernel
theorem ex_from : fromP (psk 3) ⟨#[]⟩ 2 = [(kA, ⟨#[]⟩), (kAB, ⟨#[]⟩)] := by decide +kernel
theorem ex_btw : btwP (psk 3) kAB kB = [(kAB, ⟨#[]⟩)] := by decide +kernel
theorem ex_beg : begP (psk 3) ⟨#[97]⟩ = [(kA, ⟨#[]⟩), (kAB, ⟨#[]⟩)] := by decide +kernel

theorem cod_ab_any (w : World) : Calls Try.prog 10 #[.string ⟨#[97, 98]⟩] w fun e w' => e = .returned (.string kAB) ∧ Below w.heap.size w w' := by
  refine (coded_any _ w).mono ?_
  rintro e w' ⟨rfl, rfl⟩
  exact ⟨by rw [cod_ab], Below.refl _ _⟩
theorem cod_b_any (w : World) : Calls Try.prog 10 #[.string ⟨#[98]⟩] w fun e w' => e = .returned (.string kB) ∧ Below w.heap.size w w' := by
  refine (coded_any _ w).mono ?_
  rintro e w' ⟨rfl, rfl⟩
  exact ⟨by rw [cod_b], Below.refl _ _⟩
theorem small_ex1 : ∀ p ∈ ([(kA, ⟨#[]⟩), (kAB, ⟨#[]⟩)] : PS), p.1.size ≤ 1000 ∧ p.2.size ≤ 1000 := by decide +kernel
theorem small_ex2 : ∀ p ∈ ([(kAB, ⟨#[]⟩)] : PS), p.1.size ≤ 1000 ∧ p.2.size ≤ 1000 := by decide +kernel

theorem run_buildP1 (p : ByteArray × ByteArray) (w : World) : (Instr.buildSlice 26 1 [(0, Value.agg #[.string p.1, .string p.2])].toArray).run Try.prog w = .ok (.slice (some ⟨w.heap.size, 0, none⟩) 1 1) (w.alloc (.cells #[.string p.1, .string p.2] 48)) := by
  simp [go_sem]
theorem run_buildP2 (p q : ByteArray × ByteArray) (w : World) : (Instr.buildSlice 26 2 [(0, Value.agg #[.string p.1, .string p.2]), (1, Value.agg #[.string q.1, .string q.2])].toArray).run Try.prog w = .ok (.slice (some ⟨w.heap.size, 0, none⟩) 2 2) (w.alloc (.cells #[.string p.1, .string p.2, .string q.1, .string q.2] 48)) := by
  simp [go_sem]

theorem softP1 (p : ByteArray × ByteArray) (w : World) (h : p.1.size ≤ 1000 ∧ p.2.size ≤ 1000) : Soft.SoftP [p] (.slice (some ⟨w.heap.size, 0, none⟩) 1 1) (w.alloc (.cells #[.string p.1, .string p.2] 48)) := by
  have hn := World.alloc_heap_new w (.cells #[.string p.1, .string p.2] 48)
  refine ⟨_, _, rfl, rfl, by simpa using h, .inr ⟨_, 0, rfl, by simp, fun j q hq => ?_⟩⟩
  match j, hq with
  | 0, hq =>
    simp at hq; subst hq
    constructor <;> (rw [cell_of_row _ _ _ _ _ (0, 0) hn]; rfl)

theorem softP2 (p q : ByteArray × ByteArray) (w : World) (h : p.1.size ≤ 1000 ∧ p.2.size ≤ 1000) (h2 : q.1.size ≤ 1000 ∧ q.2.size ≤ 1000) : Soft.SoftP [p, q] (.slice (some ⟨w.heap.size, 0, none⟩) 2 2) (w.alloc (.cells #[.string p.1, .string p.2, .string q.1, .string q.2] 48)) := by
  have hn := World.alloc_heap_new w (.cells #[.string p.1, .string p.2, .string q.1, .string q.2] 48)
  refine ⟨_, _, rfl, rfl, by simpa using ⟨h, h2⟩, .inr ⟨_, 0, rfl, by simp, fun j r hr => ?_⟩⟩
  match j, hr with
  | 0, hr =>
    simp at hr; subst hr
    constructor <;> (rw [cell_of_row _ _ _ _ _ (0, 0) hn]; rfl)
  | 1, hr =>
    simp at hr; subst hr
    constructor <;> (rw [cell_of_row _ _ _ _ _ (0, 0) hn]; rfl)

theorem keep_block {b m : Nat} {v v' : Value} {w w' : World} (h : Turned b m v w v' w') {k : Nat} (hk : k < w.heap.size) (h1 : k ≠ b) (h2 : k ≠ m) (h3 : v.ownBlock ≠ some k) : w'.heap[k]? = w.heap[k]? ∧ v'.ownBlock ≠ some k := by
  refine ⟨h.1.block k hk h1 h2 (fun e => h3 e.symm), ?_⟩
  rcases h.2 with e | e | ⟨j, e, hj⟩
  · rw [e]; exact h3
  · rw [e]; simp
  · rw [e]; intro e2; cases e2; omega

set_option maxRecDepth 100000 in
set_option maxHeartbeats 16000000 in
theorem awake_any (w : World) : Calls Try.prog 14 #[] w fun e w' => e = .returned (.bool true) ∧ Below w.heap.size w w' := by
  go_enter Try.func14, Try.ntmps14
  go_wp2_with (go_at_call 8; refine (anew_any _).mono ?_; rintro e w1 ⟨b, m, rfl, hA1, hb1⟩)
  obtain ⟨w2, hw2⟩ : ∃ w2, w2 = w1.alloc (.cells #[.string ⟨#[98]⟩, .string ⟨#[97]⟩, .string ⟨#[97, 98]⟩] 9) := ⟨_, rfl⟩
  have hal : Below w1.heap.size w1 w2 := by rw [hw2]; exact (Below.refl _ _).alloc (Nat.le_refl _) _
  have hA2 := Lib.hid (hA1.below hal)
  have hk2 : w2.heap[w1.heap.size]? = some (.cells #[.string ⟨#[98]⟩, .string ⟨#[97]⟩, .string ⟨#[97, 98]⟩] 9 (0, 0)) := by rw [hw2]; exact World.alloc_heap_new _ _
  have hb2 : Below w.heap.size w w2 := hb1.trans (hal.mono hb1.size)
  have hbm := hA1.lt
  have hz1 := hb1.size
  have hz2 : w2.heap.size = w1.heap.size + 1 := by rw [hw2]; simp
  clear hA1 hal hb1
  rw [← hw2]
  clear hw2
  go_loopw [3] (fun i wr => ∃ (k : Nat) (v : Value), k ≤ 3 ∧ i = .int .i64 k ∧ Hid (ArtAt wr w.heap.size b m v (psk k)) ∧ wr.heap[w1.heap.size]? = some (.cells #[.string ⟨#[98]⟩, .string ⟨#[97]⟩, .string ⟨#[97, 98]⟩] 9 (0, 0)) ∧ v.ownBlock ≠ some w1.heap.size ∧ Below w.heap.size w wr) (fun i _ => 3 - (intOf i).toNat)
  case atStart => exact ⟨0, _, by omega, rfl, hA2, hk2, by simp [Value.ownBlock], hb2⟩
  case round =>
    clear hA2 hk2 hb2
    obtain ⟨k, v, hk, rfl, hA, hkk, hv, hb⟩ := hrel
    by_cases hk3 : k < 3
    · have hck : wr.cell? ⟨w1.heap.size, k, none⟩ = some (.string (keyk k)) := by
        rw [cell_of_row _ _ _ _ _ (0, 0) hkk]
        match k, hk3 with
        | 0, _ => rfl
        | 1, _ => rfl
        | 2, _ => rfl
      have hlt := (Array.getElem?_eq_some_iff.1 hkk).1
      have hpl := psk_len hk
      have HP := Lib.hid (aput_any wr hA.out (by omega) hb.size (codB (keyk k)) ⟨#[]⟩ (cod_sz k) (by decide))
      have HS := Lib.hid (stepk hk3)
      rw [HS.out.1, HS.out.2] at HP
      have HKK := Lib.hid hkk
      clear hkk
      generalize keyk k = ky at *
      have HCD := Lib.hid (fun W => coded_any ky W)
      generalize codB ky = ck at *
      go_wp2_with (first
        | (go_at_call 10; refine (HCD.out _).mono ?_; rintro e w3 ⟨rfl, rfl⟩)
        | (go_at_call 11; refine HP.out.mono ?_; rintro e w4 ⟨rfl, v4, hA4, hT4⟩; obtain ⟨q1, q2⟩ := keep_block hT4 hlt (by omega) (by omega) hv; have hb4 := hb.trans (Turned.below hA.out hT4 hb.size)))
      go_roundw
      case rel => exact ⟨k + 1, v4, by omega, by go_num, Lib.hid hA4, q1.trans HKK.out, q2, hb4⟩
      case measure => simp [intOf]; omega
    · obtain rfl : k = 3 := by omega
      have HCA := Lib.hid (fun W => coded_any ⟨#[97]⟩ W)
      have HCB := Lib.hid (fun W => coded_any ⟨#[97, 98]⟩ W)
      rw [cod_a] at HCA
      rw [cod_ab] at HCB
      clear hkk hv hk hk3
      go_wp2_with (first
        | (go_at_call_of 10 (Value.string ⟨#[97]⟩); refine (HCA.out _).mono ?_; rintro e w3 ⟨rfl, rfl⟩)
        | (go_at_call_of 10 (Value.string ⟨#[97, 98]⟩); refine (HCB.out _).mono ?_; rintro e w3 ⟨rfl, rfl⟩))
      obtain ⟨w5, hw5⟩ : ∃ w5, w5 = (wr.alloc (.cells #[.string kA, .string ⟨#[]⟩] 48)).alloc (.cells #[.string kAB, .string ⟨#[]⟩] 48) := ⟨_, rfl⟩
      rw [← hw5]
      have hb45 : Below wr.heap.size wr w5 := by rw [hw5]; exact ((Below.refl _ _).alloc (Nat.le_refl _) _).alloc (by simp) _
      have hb5 := hb.trans (hb45.mono hb.size)
      have e1 : w5.heap[wr.heap.size]? = some (.cells #[.string kA, .string ⟨#[]⟩] 48 (0, 0)) := by rw [hw5]; exact key1 _ _ _ _ (World.alloc_heap_new _ _)
      have e2 : w5.heap[wr.heap.size + 1]? = some (.cells #[.string kAB, .string ⟨#[]⟩] 48 (0, 0)) := by
        rw [hw5]
        have := World.alloc_heap_new (wr.alloc (.cells #[.string kA, .string ⟨#[]⟩] 48)) (.cells #[.string kAB, .string ⟨#[]⟩] 48)
        rw [World.size_alloc] at this
        exact this
      have HS := Lib.hid (fun W (hb : Below w5.heap.size w5 W) => Src.art ((hA.out.below hb45).below hb))
      have HX := Lib.hid (fun W (hb : Below w5.heap.size w5 W) => wfrom_any W (HS.out W hb) (by decide) ⟨#[]⟩ 2)
      have HY := Lib.hid (fun W (hb : Below w5.heap.size w5 W) => wbetween_any W (HS.out W hb) (by decide) kAB kB)
      have HG := Lib.hid (fun W (hb : Below w5.heap.size w5 W) => wbegin_any W (HS.out W hb) (by decide) ⟨#[97]⟩ (by decide))
      rw [ex_from] at HX
      rw [ex_btw] at HY
      rw [ex_beg] at HG
      have k1 := fun d os => cell_regrown (show w5.cell? ⟨wr.heap.size, 0, none⟩ = some (.string kA) by simp [World.cell?, e1]) d os
      have k2 := fun d os => cell_regrown (show w5.cell? ⟨wr.heap.size, 1, none⟩ = some (.string ⟨#[]⟩) by simp [World.cell?, e1]) d os
      have k3 := fun d os => cell_regrown (show w5.cell? ⟨wr.heap.size + 1, 0, none⟩ = some (.string kAB) by simp [World.cell?, e2]) d os
      have k4 := fun d os => cell_regrown (show w5.cell? ⟨wr.heap.size + 1, 1, none⟩ = some (.string ⟨#[]⟩) by simp [World.cell?, e2]) d os
      clear hw5 e1 e2 HCA HCB
      refine Soft.wp_region_soft [24, 27, 33, 35, 40, 43] (Soft.Gp [(24, [(kA, ⟨#[]⟩), (kAB, ⟨#[]⟩)]), (27, [(kA, ⟨#[]⟩), (kAB, ⟨#[]⟩)]), (33, [(kAB, ⟨#[]⟩)]), (35, [(kAB, ⟨#[]⟩)]), (40, [(kA, ⟨#[]⟩), (kAB, ⟨#[]⟩)]), (43, [(kA, ⟨#[]⟩), (kAB, ⟨#[]⟩)])]) (fun t v w w' h hb => Soft.gp_stable _ t v w w' h hb) (by kernel_rfl) (by kernel_rfl) ?_
      refine Soft.soft_put ?_
      go_big_quiet_step (fail)
      refine wpQuiet_nil ?_
      refine Soft.soft_put ?_
      go_big_quiet_step (fail)
      refine wpQuiet_nil ?_
      refine Soft.soft_put ?_
      go_big_quiet_step (fail)
      refine wpQuiet_nil ?_
      refine Soft.soft_put ?_
      go_big_quiet_step (fail)
      refine wpQuiet_nil ?_
      refine Soft.soft_put ?_
      go_big_quiet_step (fail)
      refine wpQuiet_nil ?_
      refine Soft.soft_put ?_
      go_big_quiet_step (fail)
      refine wpQuiet_nil (Soft.soft_begun ?_)
      repeat (refine Soft.soft_op (by rfl) ?_; go_big_quiet_step (fail); refine wpQuiet_nil ?_)
      refine Soft.soft_callS (xs := [.tmp 23, .const (.string ⟨#[]⟩), .const (.int .i64 2)]) 24 (by rfl) (by rfl) (by kernel_rfl) (by rfl) (by rfl) (by simp) (fun b' w' hR hs => ?_) ?_
      · have e23 := ((hs 23 (Soft.looks_operand (by simp [Op.operands, Call.operands]))).2 (by simp)).trans (show Soft.get _ 23 = .pointer (some ⟨b, 0, none⟩) from rfl)
        rw [show (List.map b'.eval [.tmp 23, .const (.string ⟨#[]⟩), .const (.int .i64 2)]).toArray = #[Soft.get b' 23, (.string ⟨#[]⟩), (.int .i64 2)] from rfl, e23]
        refine (HX.out _ hR).mono ?_
        rintro e w'' ⟨pv, rfl, hr, hb⟩
        exact ⟨pv, rfl, hb, ⟨fun _ => Soft.softp_row hr small_ex1, fun e => absurd e (by decide), fun e => absurd e (by decide), fun e => absurd e (by decide), fun e => absurd e (by decide), fun e => absurd e (by decide), trivial⟩⟩
      go_big_quiet_step (fail)
      refine wpQuiet_nil ?_
      repeat (refine Soft.soft_op (by rfl) ?_; go_big_quiet_step (fail); refine wpQuiet_nil ?_)
      refine Soft.soft_build (ps := [(0, .tmp 25), (1, .tmp 26)]) 27 [(0, Value.agg #[.string kA, .string ⟨#[]⟩]), (1, Value.agg #[.string kAB, .string ⟨#[]⟩])] (.cells #[.string kA, .string ⟨#[]⟩, .string kAB, .string ⟨#[]⟩] 48) (by rfl) (by rfl) (by rfl) (by rfl) (by rfl) (fun w' => run_buildP2 (kA, ⟨#[]⟩) (kAB, ⟨#[]⟩) w') (fun w' _ => ⟨fun e => absurd e (by decide), fun _ => softP2 (kA, ⟨#[]⟩) (kAB, ⟨#[]⟩) w' (by decide) (by decide), fun e => absurd e (by decide), fun e => absurd e (by decide), fun e => absurd e (by decide), fun e => absurd e (by decide), trivial⟩) (by simp) ?_
      go_big_quiet_step (fail)
      refine wpQuiet_nil ?_
      refine Soft.soft_call (xs := [.tmp 24, .tmp 27]) 28 (.bool true) (by rfl) (by rfl) (by kernel_rfl) (by rfl) (by rfl) (by intro e; cases e) (fun b' w' hR hs => ?_) ?_
      · obtain ⟨a24, c24, e24, I24⟩ := ((hs 24 (Soft.looks_operand (by simp [Op.operands, Call.operands]))).1 (by simp) rfl).1 rfl
        obtain ⟨a27, c27, e27, I27⟩ := ((hs 27 (Soft.looks_operand (by simp [Op.operands, Call.operands]))).1 (by simp) rfl).2.1 rfl
        rw [show (List.map b'.eval [.tmp 24, .tmp 27]).toArray = #[Soft.get b' 24, Soft.get b' 27] from rfl, e24, e27]
        exact same_of I24 I27 (by decide)
      go_big_quiet_step (fail)
      refine wpQuiet_nil ?_
      repeat (refine Soft.soft_op (by rfl) ?_; go_big_quiet_step (fail); refine wpQuiet_nil ?_)
      refine Soft.soft_call_plain (xs := [.const (.string ⟨#[97, 98]⟩)]) 31 (.string kAB) (by rfl) (by rfl) (by kernel_rfl) (by rfl) (by rfl) (by intro e; cases e) (fun w' hR => cod_ab_any w') ?_
      go_big_quiet_step (fail)
      refine wpQuiet_nil ?_
      refine Soft.soft_call_plain (xs := [.const (.string ⟨#[98]⟩)]) 32 (.string kB) (by rfl) (by rfl) (by kernel_rfl) (by rfl) (by rfl) (by intro e; cases e) (fun w' hR => cod_b_any w') ?_
      go_big_quiet_step (fail)
      refine wpQuiet_nil ?_
      refine Soft.soft_callS (xs := [.tmp 30, .tmp 31, .tmp 32]) 33 (by rfl) (by rfl) (by kernel_rfl) (by rfl) (by rfl) (by simp) (fun b' w' hR hs => ?_) ?_
      · have e30 := ((hs 30 (Soft.looks_operand (by simp [Op.operands, Call.operands]))).2 (by simp)).trans (show Soft.get _ 30 = .pointer (some ⟨b, 0, none⟩) from rfl)
        have e31 := ((hs 31 (Soft.looks_operand (by simp [Op.operands, Call.operands]))).2 (by simp)).trans (show Soft.get _ 31 = .string kAB from rfl)
        have e32 := ((hs 32 (Soft.looks_operand (by simp [Op.operands, Call.operands]))).2 (by simp)).trans (show Soft.get _ 32 = .string kB from rfl)
        rw [show (List.map b'.eval [.tmp 30, .tmp 31, .tmp 32]).toArray = #[Soft.get b' 30, Soft.get b' 31, Soft.get b' 32] from rfl, e30, e31, e32]
        refine (HY.out _ hR).mono ?_
        rintro e w'' ⟨pv, rfl, hr, hb⟩
        exact ⟨pv, rfl, hb, ⟨fun e => absurd e (by decide), fun e => absurd e (by decide), fun _ => Soft.softp_row hr small_ex2, fun e => absurd e (by decide), fun e => absurd e (by decide), fun e => absurd e (by decide), trivial⟩⟩
      go_big_quiet_step (fail)
      refine wpQuiet_nil ?_
      repeat (refine Soft.soft_op (by rfl) ?_; go_big_quiet_step (fail); refine wpQuiet_nil ?_)
      refine Soft.soft_build (ps := [(0, .tmp 34)]) 35 [(0, Value.agg #[.string kAB, .string ⟨#[]⟩])] (.cells #[.string kAB, .string ⟨#[]⟩] 48) (by rfl) (by rfl) (by rfl) (by rfl) (by rfl) (fun w' => run_buildP1 (kAB, ⟨#[]⟩) w') (fun w' _ => ⟨fun e => absurd e (by decide), fun e => absurd e (by decide), fun e => absurd e (by decide), fun _ => softP1 (kAB, ⟨#[]⟩) w' (by decide), fun e => absurd e (by decide), fun e => absurd e (by decide), trivial⟩) (by simp) ?_
      go_big_quiet_step (fail)
      refine wpQuiet_nil ?_
      refine Soft.soft_call (xs := [.tmp 33, .tmp 35]) 36 (.bool true) (by rfl) (by rfl) (by kernel_rfl) (by rfl) (by rfl) (by intro e; cases e) (fun b' w' hR hs => ?_) ?_
      · obtain ⟨a33, c33, e33, I33⟩ := ((hs 33 (Soft.looks_operand (by simp [Op.operands, Call.operands]))).1 (by simp) rfl).2.2.1 rfl
        obtain ⟨a35, c35, e35, I35⟩ := ((hs 35 (Soft.looks_operand (by simp [Op.operands, Call.operands]))).1 (by simp) rfl).2.2.2.1 rfl
        rw [show (List.map b'.eval [.tmp 33, .tmp 35]).toArray = #[Soft.get b' 33, Soft.get b' 35] from rfl, e33, e35]
        exact same_of I33 I35 (by decide)
      go_big_quiet_step (fail)
      refine wpQuiet_nil ?_
      repeat (refine Soft.soft_op (by rfl) ?_; go_big_quiet_step (fail); refine wpQuiet_nil ?_)
      refine Soft.soft_callS (xs := [.tmp 39, .const (.string ⟨#[97]⟩)]) 40 (by rfl) (by rfl) (by kernel_rfl) (by rfl) (by rfl) (by simp) (fun b' w' hR hs => ?_) ?_
      · have e39 := ((hs 39 (Soft.looks_operand (by simp [Op.operands, Call.operands]))).2 (by simp)).trans (show Soft.get _ 39 = .pointer (some ⟨b, 0, none⟩) from rfl)
        rw [show (List.map b'.eval [.tmp 39, .const (.string ⟨#[97]⟩)]).toArray = #[Soft.get b' 39, (.string ⟨#[97]⟩)] from rfl, e39]
        refine (HG.out _ hR).mono ?_
        rintro e w'' ⟨pv, rfl, hr, hb⟩
        exact ⟨pv, rfl, hb, ⟨fun e => absurd e (by decide), fun e => absurd e (by decide), fun e => absurd e (by decide), fun e => absurd e (by decide), fun _ => Soft.softp_row hr small_ex1, fun e => absurd e (by decide), trivial⟩⟩
      go_big_quiet_step (fail)
      refine wpQuiet_nil ?_
      repeat (refine Soft.soft_op (by rfl) ?_; go_big_quiet_step (fail); refine wpQuiet_nil ?_)
      refine Soft.soft_build (ps := [(0, .tmp 41), (1, .tmp 42)]) 43 [(0, Value.agg #[.string kA, .string ⟨#[]⟩]), (1, Value.agg #[.string kAB, .string ⟨#[]⟩])] (.cells #[.string kA, .string ⟨#[]⟩, .string kAB, .string ⟨#[]⟩] 48) (by rfl) (by rfl) (by rfl) (by rfl) (by rfl) (fun w' => run_buildP2 (kA, ⟨#[]⟩) (kAB, ⟨#[]⟩) w') (fun w' _ => ⟨fun e => absurd e (by decide), fun e => absurd e (by decide), fun e => absurd e (by decide), fun e => absurd e (by decide), fun e => absurd e (by decide), fun _ => softP2 (kA, ⟨#[]⟩) (kAB, ⟨#[]⟩) w' (by decide) (by decide), trivial⟩) (by simp) ?_
      go_big_quiet_step (fail)
      refine wpQuiet_nil ?_
      refine Soft.soft_call (xs := [.tmp 40, .tmp 43]) 44 (.bool true) (by rfl) (by rfl) (by kernel_rfl) (by rfl) (by rfl) (by intro e; cases e) (fun b' w' hR hs => ?_) ?_
      · obtain ⟨a40, c40, e40, I40⟩ := ((hs 40 (Soft.looks_operand (by simp [Op.operands, Call.operands]))).1 (by simp) rfl).2.2.2.2.1 rfl
        obtain ⟨a43, c43, e43, I43⟩ := ((hs 43 (Soft.looks_operand (by simp [Op.operands, Call.operands]))).1 (by simp) rfl).2.2.2.2.2.1 rfl
        rw [show (List.map b'.eval [.tmp 40, .tmp 43]).toArray = #[Soft.get b' 40, Soft.get b' 43] from rfl, e40, e43]
        exact same_of I40 I43 (by decide)
      go_big_quiet_step (fail)
      refine wpQuiet_nil ?_
      repeat (refine Soft.soft_op (by rfl) ?_; go_big_quiet_step (fail); refine wpQuiet_nil ?_)
      refine Soft.soft_nil ?_
      intro us w9 hw9
      simp only [Soft.patch, Act.put, List.setIfInBounds_toArray, List.set_cons_succ, List.set_cons_zero]
      generalize us 24 = V24
      generalize us 27 = V27
      generalize us 33 = V33
      generalize us 35 = V35
      generalize us 40 = V40
      generalize us 43 = V43
      have hb10 := hb5.trans (hw9.mono hb5.size)
      clear k1 k2 k3 k4
      go_wp2
      go_ret
      exact ⟨rfl, hb10⟩

end Go.Proofs.Ytegccicplcjcmaa
