/- The law BookKeeps: the walk. -/
import Derived.Test.YtgfhaldfjnepmaaBk25
namespace Go.Proofs.Ytgfhaldfjnepmaa
open Go Go.RowKit Go.Shelf Go.Proofs
attribute [local go_sem] Oper.semAt_some

def IsDeed (d : Deed) : Prop := d.key.size ≤ 140737488351232 ∧ d.value.size ≤ 140737488351232 ∧ d.old.size ≤ 140737488351232 ∧ (-9223372036854775808 ≤ d.n ∧ d.n ≤ 9223372036854775807)

/-- One operation of the list, in the loop that lays the book. -/
theorem act_kept {B b m : Nat} {v : Value} {K M : Nat} {ps : PS} (w : World) (h : BookAt w B b m v K M ps) (hn : ps.length < 80000) (hBs : B ≤ w.heap.size) (d : Deed) (hf : fitsB d = true) (h4 : -9223372036854775808 ≤ d.n ∧ d.n ≤ 9223372036854775807) :
    Calls Try.prog 31 #[.pointer (some ⟨b, 0, none⟩), deedV d] w fun e w' => e = .returned (.int .i64 (actE K M ps d)) ∧ ∃ v', BookAt w' B b m v' K M (actQ K M ps d) ∧ Turned b m v w v' w' := by
  simp only [fitsB, Bool.and_eq_true, decide_eq_true_eq] at hf
  exact act_any w h hn hBs d (by omega) (by omega) (by omega) h4.1 h4.2

theorem del5 {B b m : Nat} {v : Value} {K M : Nat} {ps : PS} {w : World} (h : BookAt w B b m v K M ps) (hn : ps.length < 80000) (hB : B ≤ w.heap.size) {s : ByteArray} (hs : s.size ≤ 16) (hg : getP ps s = none) :
    Calls Try.prog 46 #[.pointer (some ⟨b, 0, none⟩), .string s] w fun e w' => e = .returned (.int .i64 5) ∧ ∃ v', BookAt w' B b m v' K M ps ∧ Below B w w' := by
  refine (del_any w h (by omega) s (by omega)).mono ?_
  rintro e w' ⟨rfl, v', h1, h2⟩
  have e5 := (get_gone hs hg).1
  rw [show delQ ps s = ps from by unfold delQ; rw [e5]; simp] at h1
  exact ⟨by rw [e5], v', h1, Turned.below h h2 hB⟩

theorem swap5 {B b m : Nat} {v : Value} {K M : Nat} {ps : PS} {w : World} (h : BookAt w B b m v K M ps) (hn : ps.length < 80000) (hB : B ≤ w.heap.size) {s : ByteArray} (hs : s.size ≤ 16) (hg : getP ps s = none) :
    Calls Try.prog 47 #[.pointer (some ⟨b, 0, none⟩), .string s, .string ⟨#[]⟩, .string ⟨#[]⟩] w fun e w' => e = .returned (.int .i64 5) ∧ ∃ v', BookAt w' B b m v' K M ps ∧ Below B w w' := by
  refine (swap_any w h (by omega) hB s ⟨#[]⟩ ⟨#[]⟩ (by omega) (by decide) (by decide)).mono ?_
  rintro e w' ⟨rfl, v', h1, h2⟩
  obtain ⟨e5, q5⟩ := swap_gone (K := K) (M := M) hs (show (⟨#[]⟩ : ByteArray).size ≤ 32 by decide) (show (⟨#[]⟩ : ByteArray).size ≤ 32 by decide) hg
  rw [q5] at h1
  exact ⟨by rw [e5], v', h1, Turned.below h h2 hB⟩

theorem put0 {B b m : Nat} {v : Value} {K M : Nat} {ps : PS} {w : World} (h : BookAt w B b m v K M ps) (hn : ps.length < 80000) (hB : B ≤ w.heap.size) {s x : ByteArray} (hs : s.size ≤ 16) (hx : x.size ≤ 32) (hg : getP ps s = some x) :
    Calls Try.prog 48 #[.pointer (some ⟨b, 0, none⟩), .string s, .string x] w fun e w' => e = .returned (.int .i64 0) ∧ ∃ v', BookAt w' B b m v' K M (putP ps s x) ∧ Below B w w' := by
  refine (put_any w h (by omega) hB s x (by omega) (by omega)).mono ?_
  rintro e w' ⟨rfl, v', h1, h2⟩
  obtain ⟨e0, q0⟩ := put_again h.sorted hs hx hg h.keys h.bytes
  rw [q0] at h1
  exact ⟨by rw [e0], v', h1, Turned.below h h2 hB⟩

theorem swap0 {B b m : Nat} {v : Value} {K M : Nat} {ps : PS} {w : World} (h : BookAt w B b m v K M ps) (hn : ps.length < 80000) (hB : B ≤ w.heap.size) {s x : ByteArray} (hs : s.size ≤ 16) (hx : x.size ≤ 32) (hg : getP ps s = some x) :
    Calls Try.prog 47 #[.pointer (some ⟨b, 0, none⟩), .string s, .string x, .string x] w fun e w' => e = .returned (.int .i64 0) ∧ Below B w w' := by
  refine (swap_any w h (by omega) hB s x x (by omega) (by omega) (by omega)).mono ?_
  rintro e w' ⟨rfl, v', h1, h2⟩
  rw [swap_again h.sorted hs hx hg h.keys h.bytes]
  exact ⟨rfl, Turned.below h h2 hB⟩

theorem get_val {B b m : Nat} {v : Value} {K M : Nat} {ps : PS} {w : World} (h : BookAt w B b m v K M ps) {s u : ByteArray} {r : Int} (hs : s.size ≤ 1000) (h1 : getE ps s = r) (h2 : getV ps s = u) :
    Calls Try.prog 45 #[.pointer (some ⟨b, 0, none⟩), .string s] w fun e w' => e = .returned (.tuple #[.string u, .int .i64 r]) ∧ Below w.heap.size w w' := by
  rw [← h1, ← h2]; exact get_any w h s hs

set_option maxRecDepth 100000 in
set_option maxHeartbeats 16000000 in
theorem law_BookKeeps (K M : Nat) (hK : K < 2 ^ 64) (hM : M < 2 ^ 64) (a : Option Addr) (len cap : Nat) (ds : List Deed) (x : Deed) (w : World) (hds : IsDeeds w a len ds) (hx : IsDeed x) :
    Calls Try.prog 14 #[.agg #[.int .u64 K, .int .u64 M], .slice a len cap, deedV x] w fun e w' => e = .returned (.bool true) ∧ Below w.heap.size w w' := by
  obtain ⟨w1, hw1⟩ : ∃ w1, w1 = (w.alloc (.cells #[.int .u64 K, .int .u64 M] 41)).alloc (.cells #[.int .i64 x.what, .string x.key, .string x.value, .string x.old, .int .i64 x.n] 46) := ⟨_, rfl⟩
  have hB1 : Below w.heap.size w w1 := by rw [hw1]; exact ((Below.refl w.heap.size w).alloc (Nat.le_refl _) _).alloc (by simp) _
  have hl0 : w1.heap[w.heap.size]? = some (.cells #[.int .u64 K, .int .u64 M] 41) := by rw [hw1]; exact key1 _ _ _ _ (World.alloc_heap_new _ _)
  have hd0 : w1.heap[w.heap.size + 1]? = some (.cells #[.int .i64 x.what, .string x.key, .string x.value, .string x.old, .int .i64 x.n] 46) := by
    have := World.alloc_heap_new (w.alloc (.cells #[.int .u64 K, .int .u64 M] 41)) (.cells #[.int .i64 x.what, .string x.key, .string x.value, .string x.old, .int .i64 x.n] 46)
    rw [hw1]; simpa using this
  have hs1 : w1.heap.size = w.heap.size + 1 + 1 := by rw [hw1]; simp
  have HDS := Lib.hid (fun w' (hb : Below w1.heap.size w1 w') => (hds.below hB1).below hb)
  have HL := Lib.hid (fun w' (hb : Below w1.heap.size w1 w') => (show w'.cell? ⟨w.heap.size, 0, none⟩ = some (.int .u64 K) ∧ w'.cell? ⟨w.heap.size, 1, none⟩ = some (.int .u64 M) by
    have e := (hb.block w.heap.size (by omega)).trans hl0
    constructor <;> simp [World.cell?, e]))
  have HX := Lib.hid (fun w' (hb : Below w1.heap.size w1 w') => (show w'.cell? ⟨w.heap.size + 1, 0, none⟩ = some (.int .i64 x.what) ∧ w'.cell? ⟨w.heap.size + 1, 1, none⟩ = some (.string x.key) ∧ w'.cell? ⟨w.heap.size + 1, 2, none⟩ = some (.string x.value) ∧ w'.cell? ⟨w.heap.size + 1, 3, none⟩ = some (.string x.old) ∧ w'.cell? ⟨w.heap.size + 1, 4, none⟩ = some (.int .i64 x.n) by
    have e := (hb.block (w.heap.size + 1) (by omega)).trans hd0
    refine ⟨?_, ?_, ?_, ?_, ?_⟩ <;> simp [World.cell?, e]))
  have hlen := hds.2.1
  obtain ⟨x1, x2, x3, x4⟩ := hx
  clear hds hl0 hd0
  have HXF := Lib.hid (fun W => fits_any x W x1 x2 x3)
  unfold deedV at HXF ⊢
  cases hxf : fitsB x with
  | false =>
    rw [hxf] at HXF
    go_enter Try.func14, Try.ntmps14
    go_wp2_with (first
      | (go_at_call 27; refine (awake_any _).mono ?_; rintro e w2 ⟨rfl, hn2⟩; rw [← hw1] at hn2; obtain ⟨d0, d1, d2, d3, d4⟩ := HX.out _ hn2)
      | (go_at_call 29; refine (HXF.out _).mono ?_; rintro e w3 ⟨rfl, hn3⟩))
    go_ret
    exact ⟨rfl, hB1.trans ((hn2.trans (hn3.mono hn2.size)).mono (by omega))⟩
  | true =>
    rw [hxf] at HXF
    go_enter Try.func14, Try.ntmps14
    go_wp2_with (first
      | (go_at_call 27; refine (awake_any _).mono ?_; rintro e w2 ⟨rfl, hn2⟩; rw [← hw1] at hn2; obtain ⟨d0, d1, d2, d3, d4⟩ := HX.out _ hn2)
      | (go_at_call 29; refine (HXF.out _).mono ?_; rintro e w3 ⟨rfl, hn3⟩; have hb3 := hn2.trans (hn3.mono hn2.size); obtain ⟨c1, c2⟩ := HL.out _ hb3)
      | (go_at_call 28; refine (new_any K M _ hK hM).mono ?_; rintro e w4 ⟨b, m, rfl, hbk, hn4⟩))
    clear hw1 c1 c2 d0 d1 d2 d3 d4
    have hb4 : Below w1.heap.size w1 w4 := hb3.trans (hn4.mono hb3.size)
    have hsz3 := hb3.size
    have hsz4 := hn4.size
    have HBK := Lib.hid hbk
    have hle4 := Nat.le_refl w3.heap.size
    clear hbk
    go_loopw [8] (fun i wr => ∃ (k : Nat) (v : Value) (ps : PS), k ≤ len ∧ k ≤ 80 ∧ i = .int .i64 k ∧ Hid (BookAt wr w3.heap.size b m v K M ps) ∧ ps.length ≤ k ∧ Below w1.heap.size w1 wr ∧ w3.heap.size ≤ wr.heap.size) (fun i _ => 80 - (intOf i).toNat)
    case atStart => exact ⟨0, _, [], Nat.zero_le _, by omega, rfl, HBK, Nat.le_refl _, hb4, hsz4⟩
    case round =>
      obtain ⟨k, v, ps, hk, hk80, rfl, HB, hpl, hBr, hszr⟩ := hrel
      clear HBK hb4 hn4 hsz4 hle4
      by_cases hbody : k < len ∧ k < 80
      · obtain ⟨hk1, hk2⟩ := hbody
        obtain ⟨g, off, d, rfl, hd, d0, d1, d2, d3, d4, z1, z2, z3, z4, z5⟩ := deed_cells_at (HDS.out _ (Below.refl _ _)) hk1
        have HDC := Lib.hid (fun w' (hb : Below w1.heap.size w1 w') => And.intro (cell_below hb d0) (And.intro (cell_below hb d1) (And.intro (cell_below hb d2) (And.intro (cell_below hb d3) (cell_below hb d4)))))
        clear d0 d1 d2 d3 d4
        obtain ⟨d0, d1, d2, d3, d4⟩ := HDC.out _ hBr
        have HF := Lib.hid (fits_any d wr z1 z2 z3)
        clear hd
        cases hfit : fitsB d with
        | false =>
          rw [hfit] at HF
          go_wp2_with (go_at_call 29; refine HF.out.mono ?_; rintro e w5 ⟨rfl, hn5⟩)
          have HB5 := Lib.hid (HB.out.below hn5)
          have hsz5 := Nat.le_trans hszr hn5.size
          go_roundw
          case rel => exact ⟨k + 1, v, ps, by omega, by omega, by go_num, HB5, by omega, hBr.trans (hn5.mono hBr.size), hsz5⟩
          case measure => simp [intOf]; omega
        | true =>
          rw [hfit] at HF
          have HAL := actQ_len (K := K) (M := M) HB.out.sorted d
          have HA := Lib.hid (fun w5 (hb : Below wr.heap.size wr w5) => act_kept w5 (HB.out.below hb) (by omega) (by have := hb.size; omega) d hfit ⟨z4, z5⟩)
          unfold deedV at HA
          go_wp2_with (first
            | (go_at_call 29; refine HF.out.mono ?_; rintro e w5 ⟨rfl, hn5⟩; have hb5 := hBr.trans (hn5.mono hBr.size); obtain ⟨d0, d1, d2, d3, d4⟩ := HDC.out _ hb5)
            | (go_at_call 31; refine (HA.out _ hn5).mono ?_; rintro e w6 ⟨rfl, v', hk6, ht6⟩; have hlow := Turned.below (HB.out.below hn5) ht6 (by have := hn5.size; omega)))
          have hb6 : Below w1.heap.size w1 w6 := hb5.trans (hlow.mono (by omega))
          have HB6 := Lib.hid hk6
          have hsz6 : w3.heap.size ≤ w6.heap.size := by have := hn5.size; have := hlow.size; omega
          go_roundw
          case rel => exact ⟨k + 1, v', actQ K M ps d, by omega, by omega, by go_num, HB6, by omega, hb6, hsz6⟩
          case measure => simp [intOf]; omega
      · have hex : (¬ k < len) ∨ (k < len ∧ ¬ k < 80) := by omega
        have HSM := Lib.hid HB.out.small
        have HSO := Lib.hid HB.out.sorted
        have HP1 := Lib.hid (pairs_any wr HB.out (by omega))
        have HA := Lib.hid (fun w5 (hb : Below wr.heap.size wr w5) => act_kept w5 (HB.out.below hb) (by omega) (by have := hb.size; omega) x hxf x4)
        unfold deedV at HA
        have hEc := actE_cases K M ps x
        generalize hE : actE K M ps x = E at HA hEc
        generalize hQ : actQ K M ps x = Q at HA
        have HE := Lib.hid hE
        have HQ := Lib.hid hQ
        clear hE hQ
        rcases hex with hex | ⟨hex1, hex2⟩
        all_goals
          go_wp2_with (first
            | (go_at_call 30; refine HP1.out.mono ?_; clear HP1; rintro e w5 ⟨pv, rfl, hp5, hn5⟩; obtain ⟨pa, pc, rfl, _⟩ := prow_is hp5 (fun p hp => ⟨Nat.le_trans (HSM.out p hp).1 (by omega), Nat.le_trans (HSM.out p hp).2 (by omega)⟩); have hb5 := hBr.trans (hn5.mono hBr.size); obtain ⟨d0, d1, d2, d3, d4⟩ := HX.out _ hb5)
            | (go_at_call 21; refine (pick_any _ 6 _ (by omega) (by omega)).mono ?_; rintro e w' ⟨⟨kp, rfl, hkp6, hkp⟩, rfl⟩)
            | (go_at_call 31; refine (HA.out _ hn5).mono ?_; clear HA; rintro e w6 ⟨rfl, v', hk6, ht6⟩))
          have hp6 := prow_turned (HB.out.below hn5) ht6 hp5
          have hlow := Turned.below (HB.out.below hn5) ht6 (by have := hn5.size; omega)
          have hb6 : Below w1.heap.size w1 w6 := hb5.trans (hlow.mono (by omega))
          have hsz6 : w3.heap.size ≤ w6.heap.size := by have := hn5.size; have := hlow.size; omega
          have HI6 := Lib.hid (prow_isp hp6 (fun p hp => ⟨Nat.le_trans (HSM.out p hp).1 (by omega), Nat.le_trans (HSM.out p hp).2 (by omega)⟩))
          have HK6 := Lib.hid hk6
          have hQl : Q.length ≤ 81 := by have := actQ_len (K := K) (M := M) HSO.out x; rw [HQ.out] at this; omega
          have hB06 := Below.refl w6.heap.size w6
          clear hp5 hp6 hk6 ht6 d0 d1 d2 d3 d4
          go_loopw [12, 13, 14] (fun i _ _ wr => ∃ k2 : Nat, k2 ≤ ps.length ∧ i = .int .i64 k2 ∧ Below w6.heap.size w6 wr) (fun i _ _ _ => ps.length - (intOf i).toNat)
          case atStart => exact ⟨0, Nat.zero_le _, rfl, hB06⟩
          case round =>
            obtain ⟨k2, hk2, rfl, hB2⟩ := hrel
            clear hB06
            have hbq := hb6.trans (hB2.mono (by omega))
            obtain ⟨d0, d1, d2, d3, d4⟩ := HX.out _ hbq
            by_cases hkl : k2 < ps.length
            · obtain ⟨p, hpk⟩ : ∃ p, ps[k2]? = some p := ⟨_, List.getElem?_eq_getElem hkl⟩
              obtain ⟨g, off, rfl, hg, hc⟩ := (HI6.out.below hB2).2.2.resolve_left (by omega)
              obtain ⟨c1, c2⟩ := hc k2 p hpk
              have hmem := List.mem_of_getElem? hpk
              have hp16 := (HSM.out p hmem).1
              obtain ⟨p1, p2⟩ := p
              simp only at c1 c2 hp16
              have HPC := Lib.hid (fun w' (hb : Below wr.heap.size wr w') => And.intro (cell_below hb c1) (And.intro (cell_below hb c2) (cell_below hb d1)))
              have HGA := Lib.hid (fun r u (e1 : getE Q p1 = r) (e2 : getV Q p1 = u) => get_val (HK6.out.below hB2) (by omega) e1 e2)
              by_cases hkey : p1 = x.key
              · subst hkey
                have hne : (!x.key.toList == x.key.toList) = false := by simp
                clear hc hpk hmem
                generalize hgE : getE Q x.key = ge at HGA
                generalize hgV : getV Q x.key = gv at HGA
                go_wp2_with (go_at_call 45; refine (HGA.out _ _ rfl rfl).mono ?_; rintro e w8 ⟨rfl, hn8⟩; obtain ⟨c1, c2, d1⟩ := HPC.out _ hn8)
                go_quiet (fail)
                go_wp2
                go_roundw
                case rel => exact ⟨k2 + 1, by omega, by go_num, below_drewN _ (hB2.trans (hn8.mono hB2.size))⟩
                case measure => simp [intOf]; omega
              · have hne : (!p1.toList == x.key.toList) = true := by rw [strEq]; simp [hkey]
                have hne2 : (!p2.toList == p2.toList) = false := by simp
                have hkp2 := act_keeps (K := K) (M := M) HSO.out HSM.out x hmem hkey
                rw [HQ.out] at hkp2
                clear hc hpk hmem
                go_wp2_with (go_at_call 45; refine (HGA.out _ _ hkp2.1 hkp2.2).mono ?_; rintro e w8 ⟨rfl, hn8⟩; obtain ⟨c1, c2, d1⟩ := HPC.out _ hn8)
                go_quiet (fail)
                go_wp2
                go_roundw
                case rel => exact ⟨k2 + 1, by omega, by go_num, below_drewN _ (hB2.trans (hn8.mono hB2.size))⟩
                case measure => simp [intOf]; omega
            · obtain rfl : k2 = ps.length := by omega
              have hfx := hxf
              simp only [fitsB, Bool.and_eq_true, decide_eq_true_eq] at hfx
              have HGK := Lib.hid (fun (r : Int) (u : ByteArray) (e1 : getE Q x.key = r) (e2 : getV Q x.key = u) => get_val (HK6.out.below hB2) (show x.key.size ≤ 1000 by omega) e1 e2)
              clear hkl hk2
              by_cases hc1 : E ≠ 0 ∨ kp = 5
              · have HQP : Hid (Q = ps) := Lib.hid (by
                  rcases hc1 with hc1 | hc1
                  · rw [← HQ.out]; exact act_fails (by rw [HE.out]; exact hc1)
                  · rw [← HQ.out]; unfold actQ
                    rw [if_neg (by omega), if_neg (by omega), if_pos (by omega)])
                have HGK2 := Lib.hid (HGK.out _ _ rfl rfl)
                generalize getE Q x.key = ge at HGK2
                generalize getV Q x.key = gv at HGK2
                clear HGK
                rcases hEc with rfl | rfl | rfl | rfl | rfl
                · obtain rfl : kp = 5 := by rcases hc1 with hc1 | hc1; exact absurd rfl hc1; exact hc1
                  go_wp2_with (first
                    | (go_at_call 45; refine HGK2.out.mono ?_; rintro e w8 ⟨rfl, hn8⟩; have hg8 := hB2.trans (hn8.mono hB2.size))
                    | (go_at_call 30; refine (pairs_any _ (HK6.out.below hg8) (by omega)).mono ?_; rintro e w9 ⟨qv, rfl, hq9, hn9⟩; obtain ⟨qa, qc, rfl, hi9, _⟩ := prow_is hq9 (fun p hp => ⟨Nat.le_trans (HK6.out.small p hp).1 (by omega), Nat.le_trans (HK6.out.small p hp).2 (by omega)⟩); have hg9 := hg8.trans (hn9.mono hg8.size))
                    | (go_at_call 32; refine (same_true hi9 (HI6.out.below hg9) HQP.out (by omega) (by omega)).mono ?_; rintro e w10 ⟨rfl, hn10⟩))
                  go_ret
                  exact ⟨rfl, hB1.trans ((hb6.trans (((hg9.trans (hn10.mono hg9.size))).mono (by omega))).mono (by omega))⟩
                all_goals
                  go_wp2_with (first
                    | (go_at_call 45; refine HGK2.out.mono ?_; rintro e w8 ⟨rfl, hn8⟩; have hg8 := hB2.trans (hn8.mono hB2.size))
                    | (go_at_call 30; refine (pairs_any _ (HK6.out.below hg8) (by omega)).mono ?_; rintro e w9 ⟨qv, rfl, hq9, hn9⟩; obtain ⟨qa, qc, rfl, hi9, _⟩ := prow_is hq9 (fun p hp => ⟨Nat.le_trans (HK6.out.small p hp).1 (by omega), Nat.le_trans (HK6.out.small p hp).2 (by omega)⟩); have hg9 := hg8.trans (hn9.mono hg8.size))
                    | (go_at_call 32; refine (same_true hi9 (HI6.out.below hg9) HQP.out (by omega) (by omega)).mono ?_; rintro e w10 ⟨rfl, hn10⟩))
                  go_ret
                  exact ⟨rfl, hB1.trans ((hb6.trans (((hg9.trans (hn10.mono hg9.size))).mono (by omega))).mono (by omega))⟩
              · have hE0 : E = 0 := Classical.byContradiction (fun h => hc1 (.inl h))
                have hk5 : kp ≠ 5 := fun h => hc1 (.inr h)
                subst hE0
                by_cases hk3 : kp = 3
                · subst hk3
                  obtain ⟨hk16, ⟨u, hu⟩, hq3⟩ := act_deleted (K := K) (M := M) (ps := ps) (d := x) (by omega) HE.out
                  rw [HQ.out] at hq3
                  have hgone : getP Q x.key = none := by rw [hq3]; exact getP_del_same _ _
                  have hql : Q.length + 1 = ps.length := by rw [hq3]; exact (len_del HSO.out hu).1
                  obtain ⟨hgE, hgV⟩ := get_gone hk16 hgone
                  have HGK2 := Lib.hid (HGK.out _ _ hgE hgV)
                  clear HGK hu hq3 hgE hgV
                  have iql : (Q.length : Int) = (ps.length : Int) - 1 := by omega
                  go_wp2_with (first
                    | (go_at_call 45; refine HGK2.out.mono ?_; rintro e w8 ⟨rfl, hn8⟩; have hg8 := hB2.trans (hn8.mono hB2.size); have hc8 := hb6.trans (hg8.mono (by omega)); obtain ⟨d0, d1, d2, d3, d4⟩ := HX.out _ hc8; have kk8 := HK6.out.below hg8)
                    | (go_at_call 46; refine (del5 kk8 (by omega) (by have := hg8.size; omega) hk16 hgone).mono ?_; rintro e w9 ⟨rfl, v9, k9, t9⟩; have hc9 := hc8.trans (t9.mono (by omega)); obtain ⟨d0, d1, d2, d3, d4⟩ := HX.out _ hc9; have sz9 := t9.size)
                    | (go_at_call 47; refine (swap5 k9 (by omega) (by have := hg8.size; omega) hk16 hgone).mono ?_; rintro e w10 ⟨rfl, v10, k10, t10⟩; have hc10 := hc9.trans (t10.mono (by omega)))
                    | (go_at_call 30; refine (pairs_any _ k10 (by omega)).mono ?_; rintro e w11 ⟨qv, rfl, hq11, hn11⟩; obtain ⟨qa, qc, rfl, _, _⟩ := prow_is hq11 (fun p hp => ⟨Nat.le_trans (HK6.out.small p hp).1 (by omega), Nat.le_trans (HK6.out.small p hp).2 (by omega)⟩)))
                  go_ret
                  exact ⟨rfl, hB1.trans ((hc10.trans (hn11.mono hc10.size)).mono (by omega))⟩
                · obtain ⟨hk16, hv32, hq0, _, _⟩ := act_stored (K := K) (M := M) (ps := ps) (d := x) (by omega) (by omega) HE.out
                  rw [HQ.out] at hq0
                  have hgot : getP Q x.key = some x.value := by rw [hq0]; exact getP_put_same HSO.out _ _
                  have hgot2 : getP (putP Q x.key x.value) x.key = some x.value := getP_put_same HK6.out.sorted _ _
                  have hpl2 := (len_put_present HK6.out.sorted x.value hgot).1
                  obtain ⟨hgE, hgV⟩ := get_there hk16 hgot
                  have HGK2 := Lib.hid (HGK.out _ _ hgE hgV)
                  clear HGK hq0 hgE hgV
                  have i3 : ¬ (kp : Int) = 3 := by omega
                  have i5 : ¬ (kp : Int) = 5 := by omega
                  have hv1 : (x.value.toList == x.value.toList) = true := by simp
                  go_wp2_with (first
                    | (go_at_call 45; refine HGK2.out.mono ?_; rintro e w8 ⟨rfl, hn8⟩; have hg8 := hB2.trans (hn8.mono hB2.size); have hc8 := hb6.trans (hg8.mono (by omega)); obtain ⟨d0, d1, d2, d3, d4⟩ := HX.out _ hc8; have kk8 := HK6.out.below hg8)
                    | (go_at_call 48; refine (put0 kk8 (by omega) (by have := hg8.size; omega) hk16 hv32 hgot).mono ?_; rintro e w9 ⟨rfl, v9, k9, t9⟩; have hc9 := hc8.trans (t9.mono (by omega)); obtain ⟨d0, d1, d2, d3, d4⟩ := HX.out _ hc9; have sz9 := t9.size)
                    | (go_at_call 47; refine (swap0 k9 (by omega) (by have := hg8.size; omega) hk16 hv32 hgot2).mono ?_; rintro e w10 ⟨rfl, t10⟩; have hc10 := hc9.trans (t10.mono (by omega))))
                  go_ret
                  exact ⟨rfl, hB1.trans (hc10.mono (by omega))⟩

end Go.Proofs.Ytgfhaldfjnepmaa
