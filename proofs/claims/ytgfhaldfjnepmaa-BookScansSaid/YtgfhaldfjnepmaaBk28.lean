/- The law BookScans: the walk. -/
import Derived.Test.YtgfhaldfjnepmaaBk27
import Derived.Test.YtgfhaldfjnepmaaBkApp
namespace Go.Proofs.Ytgfhaldfjnepmaa
open Go Go.RowKit Go.Shelf Go.Proofs
attribute [local go_sem] Oper.semAt_some

theorem prow_any {w : World} {B n : Nat} {v : Value} {xs : List Value} (h : w.ownsRow B 57 2 v n xs) : ∃ a c, v = .slice a n c := by
  rcases prow_slice h with ⟨h1, h2⟩ | ⟨g, cap, h1⟩
  · exact ⟨none, 0, by rw [h1, h2]⟩
  · exact ⟨_, cap, h1⟩

theorem isPairs_take {w : World} {a : Option Addr} {len : Nat} {ps : PS} (h : IsPairs w a len ps) {n : Nat} (hn : n ≤ len) : IsPairs w a n (ps.take n) := by
  obtain ⟨h1, h2, h3⟩ := h
  refine ⟨by simp; omega, fun p hp => h2 p (List.mem_of_mem_take hp), ?_⟩
  rcases h3 with h3 | ⟨g, off, rfl, hg, hc⟩
  · exact .inl (by omega)
  · refine .inr ⟨g, off, rfl, hg, fun j p hp => hc j p ?_⟩
    have hj : j < n := by have := (List.getElem?_eq_some_iff.1 hp).1; simp at this; omega
    rwa [List.getElem?_take_of_lt hj] at hp

theorem same_true' {w : World} {pa qa : Option Addr} {pl ql pc qc : Nat} {ps qs : PS} (h1 : IsPairs w pa pl ps) (h2 : IsPairs w qa ql qs) (he : ps = qs) (l1 : pl < 100000) (l2 : ql < 100000) :
    Calls Try.prog 32 #[.slice pa pl pc, .slice qa ql qc] w fun e w' => e = .returned (.bool true) ∧ Below w.heap.size w w' := by
  have := same_any pa pl pc ps qa ql qc qs w h1 h2 l1 l2
  rw [decide_eq_true he] at this
  exact this

theorem scan_val {B b m : Nat} {v : Value} {K M : Nat} {ps : PS} {w : World} (h : BookAt w B b m v K M ps) (hlen : ps.length < 90000) {s : ByteArray} (hs : s.size ≤ 16) {n : Int} {N : Nat} (hn : n = (N : Int)) (hN : N ≤ 4096) {L : PS} (hL : L = (ps.drop (posP ps s)).take N) {nl : Nat} (hl : L.length = nl) :
    Calls Try.prog 37 #[.pointer (some ⟨b, 0, none⟩), .string s, .int .i64 n] w fun e w' => ∃ a c, e = .returned (.tuple #[.slice a nl c, .int .i64 0]) ∧ IsPairs w' a nl L ∧ PRow w' w.heap.size (.slice a nl c) L ∧ Below w.heap.size w w' := by
  subst hn hL hl
  refine (scan_any w h hlen s (by omega) (N : Int) (by omega) (by omega)).mono ?_
  rintro e w' ⟨pv, rfl, h1, h2⟩
  rw [scanL_ok hs hN] at h1
  obtain ⟨a, c, rfl⟩ := prow_any h1
  refine ⟨a, c, by rw [scan_ok hs (by omega) (by omega)], prow_isp h1 (fun p hp => ?_), h1, h2⟩
  have := h.small p (List.mem_of_mem_drop (List.mem_of_mem_take hp))
  omega

theorem below_al2 {n : Nat} {w w' : World} (o : Obj) (hn : n = w.heap.size) (h : Below n w w') : Below n w (w'.alloc o) := h.alloc (by rw [hn]; exact h.size) o
theorem below_ald2 {n : Nat} {w w' : World} (o : Obj) (hn : n = w.heap.size) (h : Below n w w') : Below n w (w'.alloc o).drew := (below_al2 o hn h).drew

theorem rowIs {w : World} {B n c : Nat} {a : Option Addr} {ps : PS} (h : w.ownsRow B 57 2 (.slice a n c) n (pcells ps)) (hs : ∀ p ∈ ps, p.1.size ≤ 1000 ∧ p.2.size ≤ 1000) (hl : ps.length = n) : IsPairs w a n ps := by
  subst hl
  exact prow_isp h hs

theorem own_le {w : World} {B n c size : Nat} {e : TypeId} {g : Nat} {xs : List Value} (h : w.ownsRow B e size (.slice (some ⟨g, 0, none⟩) n c) n xs) : n ≤ c := by
  rcases h.2 with ⟨h1, _⟩ | ⟨g', cap, cur, h1, _, _, h2, _⟩
  · cases h1
  · cases h1; exact h2

/-- The cells of a slice of pairs, in whatever later world. -/
theorem pairs_at {w : World} {g off n : Nat} {ps : PS} (hn : ps.length = n) (h : IsPairs w (some ⟨g, off, none⟩) n ps) : ∀ w', Below w.heap.size w w' → ∀ jj u, (pcells ps)[jj]? = some u → w'.cell? ((⟨g, off, none⟩ : Addr).add jj) = some u := by
  intro w' hb jj u hu
  have hj : jj < ps.length * 2 := by have := (List.getElem?_eq_some_iff.1 hu).1; rwa [pcells_length] at this
  obtain ⟨g', off', e, hg, hc⟩ := h.2.2.resolve_left (by omega)
  cases e
  obtain ⟨p, hp⟩ : ∃ p, ps[jj / 2]? = some p := ⟨_, List.getElem?_eq_getElem (by omega)⟩
  obtain ⟨c1, c2⟩ := hc (jj / 2) p hp
  obtain ⟨e1, e2⟩ := pcells_get ps (jj / 2) p hp
  rw [Addr.add_lit]
  rcases Nat.mod_two_eq_zero_or_one jj with hm | hm
  · have hjj : jj / 2 * 2 = jj := by omega
    rw [hjj] at e1 c1
    rw [e1] at hu; cases hu
    exact cell_below hb c1
  · have hjj : jj / 2 * 2 + 1 = jj := by omega
    rw [hjj] at e2
    rw [Nat.add_assoc, hjj] at c2
    rw [e2] at hu; cases hu
    exact cell_below hb c2

set_option maxRecDepth 100000 in
set_option maxHeartbeats 16000000 in
theorem law_BookScans (K M : Nat) (hK : K < 2 ^ 64) (hM : M < 2 ^ 64) (a : Option Addr) (len cap : Nat) (ds : List Deed) (s : ByteArray) (hsz : s.size ≤ 140737488351232) (ca : Int) (za : -9223372036854775808 ≤ ca ∧ ca ≤ 9223372036854775807) (cc : Int) (zc : -9223372036854775808 ≤ cc ∧ cc ≤ 9223372036854775807) (w : World) (hds : IsDeeds w a len ds) :
    Calls Try.prog 10 #[.agg #[.int .u64 K, .int .u64 M], .slice a len cap, .string s, .int .i64 ca, .int .i64 cc] w fun e w' => e = .returned (.bool true) ∧ Below w.heap.size w w' := by
  obtain ⟨w1, hw1⟩ : ∃ w1, w1 = w.alloc (.cells #[.int .u64 K, .int .u64 M] 41) := ⟨_, rfl⟩
  have hB1 : Below w.heap.size w w1 := by rw [hw1]; exact (Below.refl w.heap.size w).alloc (Nat.le_refl _) _
  have hl0 : w1.heap[w.heap.size]? = some (.cells #[.int .u64 K, .int .u64 M] 41) := by rw [hw1]; exact World.alloc_heap_new _ _
  have hs1 : w1.heap.size = w.heap.size + 1 := by rw [hw1]; simp
  have HDS := Lib.hid (fun w' (hb : Below w1.heap.size w1 w') => (hds.below hB1).below hb)
  have HL := Lib.hid (fun w' (hb : Below w1.heap.size w1 w') => (show w'.cell? ⟨w.heap.size, 0, none⟩ = some (.int .u64 K) ∧ w'.cell? ⟨w.heap.size, 1, none⟩ = some (.int .u64 M) by
    have e := (hb.block w.heap.size (by omega)).trans hl0
    constructor <;> simp [World.cell?, e]))
  have hlen := hds.2.1
  obtain ⟨i0, hi, hz0, hz1, hz2⟩ := info_parts2 infoPair
  clear hds hl0
  by_cases h16 : s.size ≤ 16
  · have i16 : ¬ (16 : Int) < (s.size : Int) := by omega
    go_enter Try.func10, Try.ntmps10
    go_wp2_with (first
      | (go_at_call 27; refine (awake_any _).mono ?_; rintro e w3 ⟨rfl, hn3⟩; rw [← hw1] at hn3; obtain ⟨c1, c2⟩ := HL.out _ hn3)
      | (go_at_call 28; refine (new_any K M _ hK hM).mono ?_; rintro e w4 ⟨b, m, rfl, hbk, hn4⟩))
    clear hw1 c1 c2
    have hb3 : Below w1.heap.size w1 w3 := hn3
    have hb4 : Below w1.heap.size w1 w4 := hb3.trans (hn4.mono hb3.size)
    have hsz3 := hb3.size
    have hsz4 := hn4.size
    have HBK := Lib.hid hbk
    have hle4 := Nat.le_refl w3.heap.size
    clear hbk
    go_loopw [12] (fun i wr => ∃ (k : Nat) (v : Value) (ps : PS), k ≤ len ∧ k ≤ 80 ∧ i = .int .i64 k ∧ Hid (BookAt wr w3.heap.size b m v K M ps) ∧ ps.length ≤ k ∧ Below w1.heap.size w1 wr ∧ w3.heap.size ≤ wr.heap.size) (fun i _ => 80 - (intOf i).toNat)
    case atStart => exact ⟨0, _, [], Nat.zero_le _, by omega, rfl, HBK, Nat.le_refl _, hb4, hsz4⟩
    case round =>
      obtain ⟨k, v, ps, hk, hk80, rfl, HB, hpl, hBr, hszr⟩ := hrel
      clear HBK hb4 hn4 hsz4 hle4
      by_cases hbody : k < len ∧ k < 80
      · obtain ⟨hk1, hk2⟩ := hbody
        obtain ⟨g, off, d, rfl, hd, d0, d1, d2, d3, d4, z1, z2, z3, z4, z5⟩ := deed_cells_at (HDS.out _ (Below.refl _ _)) hk1
        have HDC := Lib.hid (fun w' (hb : Below w1.heap.size w1 w') => And.intro (cell_below hb d0) (And.intro (cell_below hb d1) (And.intro (cell_below hb d2) (And.intro (cell_below hb d3) (cell_below hb d4)))))
        clear d0 d1 d2 d3 d4
        obtain ⟨d0, d1, d2, d3, d4⟩ := HDC.out _ hBr
        have HF := Lib.hid (fits_any d wr z1 z2 z3)
        clear hd
        cases hfit : fitsB d with
        | false =>
          rw [hfit] at HF
          go_wp2_with (go_at_call 29; refine HF.out.mono ?_; rintro e w5 ⟨rfl, hn5⟩)
          have HB5 := Lib.hid (HB.out.below hn5)
          have hsz5 := Nat.le_trans hszr hn5.size
          go_roundw
          case rel => exact ⟨k + 1, v, ps, by omega, by omega, by go_num, HB5, by omega, hBr.trans (hn5.mono hBr.size), hsz5⟩
          case measure => simp [intOf]; omega
        | true =>
          rw [hfit] at HF
          have HAL := actQ_len (K := K) (M := M) HB.out.sorted d
          have HA := Lib.hid (fun w5 (hb : Below wr.heap.size wr w5) => act_kept w5 (HB.out.below hb) (by omega) (by have := hb.size; omega) d hfit ⟨z4, z5⟩)
          unfold deedV at HA
          go_wp2_with (first
            | (go_at_call 29; refine HF.out.mono ?_; rintro e w5 ⟨rfl, hn5⟩; have hb5 := hBr.trans (hn5.mono hBr.size); obtain ⟨d0, d1, d2, d3, d4⟩ := HDC.out _ hb5)
            | (go_at_call 31; refine (HA.out _ hn5).mono ?_; rintro e w6 ⟨rfl, v', hk6, ht6⟩; have hlow := Turned.below (HB.out.below hn5) ht6 (by have := hn5.size; omega)))
          have hb6 : Below w1.heap.size w1 w6 := hb5.trans (hlow.mono (by omega))
          have HB6 := Lib.hid hk6
          have hsz6 : w3.heap.size ≤ w6.heap.size := by have := hn5.size; have := hlow.size; omega
          go_roundw
          case rel => exact ⟨k + 1, v', actQ K M ps d, by omega, by omega, by go_num, HB6, by omega, hb6, hsz6⟩
          case measure => simp [intOf]; omega
      · have hex : (¬ k < len) ∨ (k < len ∧ ¬ k < 80) := by omega
        have HSM := Lib.hid HB.out.small
        have HSO := Lib.hid HB.out.sorted
        have HP1 := Lib.hid (pairs_any wr HB.out (by omega))
        have HBR := Lib.hid (fun w' (hb : Below wr.heap.size wr w') => HB.out.below hb)
        obtain ⟨wr0, hwr0⟩ : ∃ wr0, wr0 = wr := ⟨_, rfl⟩
        rcases hex with hex | ⟨hex1, hex2⟩
        all_goals
          go_wp2_with (first
            | (go_at_call_of 21 (Value.int IntKind.i64 ca); refine (pick_any ca 9 _ (by omega) (by omega)).mono ?_; rintro e wp ⟨⟨n, rfl, hn9, -⟩, rfl⟩)
            | (go_at_call 21; refine (pick_any cc 9 _ (by omega) (by omega)).mono ?_; rintro e wp ⟨⟨m2, rfl, hm9, -⟩, rfl⟩)
            | (go_at_call 30; refine HP1.out.mono ?_; clear HP1; rintro e w5 ⟨pv, rfl, hp5, hn5⟩; obtain ⟨pa, pc, rfl, hi5, _⟩ := prow_is hp5 (fun p hp => ⟨Nat.le_trans (HSM.out p hp).1 (by omega), Nat.le_trans (HSM.out p hp).2 (by omega)⟩)))
          have hb5 := hBr.trans (hn5.mono hBr.size)
          have HI5 := Lib.hid hi5
          have hB05 := Below.refl w5.heap.size w5
          clear hp5 hi5
          go_loopw [15, 17] (fun o i wr => ∃ k2 : Nat, k2 ≤ ps.length ∧ i = .int .i64 k2 ∧ wr.ownsRow w5.heap.size 57 2 o (wantP ps s (n + m2) k2).length (pcells (wantP ps s (n + m2) k2)) ∧ Below w5.heap.size w5 wr) (fun _ i _ => ps.length - (intOf i).toNat)
          case atStart => exact ⟨0, Nat.zero_le _, rfl, by simpa [wantP, pcells] using World.ownsRow_nil w5 w5.heap.size 57 2, hB05⟩
          case round =>
            obtain ⟨k2, hk2, rfl, hrow, hB2⟩ := hrel
            clear hB05
            have hWl := wantP_len ps s (n + m2) k2
            by_cases hkl : k2 < ps.length
            · obtain ⟨p, hpk⟩ : ∃ p, ps[k2]? = some p := ⟨_, List.getElem?_eq_getElem hkl⟩
              obtain ⟨g, off, rfl, hg, hc⟩ := (HI5.out.below hB2).2.2.resolve_left (by omega)
              obtain ⟨c1, c2⟩ := hc k2 p hpk
              have HWS := Lib.hid (wantP_succ s (n + m2) hpk)
              generalize wantP ps s (n + m2) k2 = W at hrow hWl HWS
              obtain ⟨p1, p2⟩ := p
              simp only at c1 c2 HWS
              obtain ⟨oa, oc, rfl⟩ := prow_any hrow
              have HR := Lib.hid hrow
              clear hc hpk hrow
              by_cases hlt : by_ p1 < by_ s
              · have hk : klt p1 s = true := klt_iff.2 hlt
                have e1 : Op.bytesLess p1.toList s.toList = true := by rw [bytesLess_eq, toList_by, toList_by]; exact decide_eq_true hlt
                have e2 : Op.bytesLess s.toList p1.toList = false := by rw [bytesLess_eq, toList_by, toList_by]; exact decide_eq_false (lex_asymm hlt)
                have e3 : (s.toList == p1.toList) = false := by rw [strEq]; exact decide_eq_false (fun e => by rw [e] at hlt; exact lex_irrefl _ hlt)
                have e4 : (p1.toList == s.toList) = false := by rw [strEq]; exact decide_eq_false (fun e => by rw [e] at hlt; exact lex_irrefl _ hlt)
                have HE : Hid (wantP ps s (n + m2) (k2 + 1) = W) := Lib.hid (by rw [HWS.out]; exact if_neg (by intro h; rw [hk] at h; exact absurd h.1 (by decide)))
                clear HWS
                go_wp2
                go_roundw
                case rel => exact ⟨k2 + 1, by omega, by go_num, by rw [HE.out]; exact HR.out, hB2⟩
                case measure => simp [intOf]; omega
              · have hk : klt p1 s = false := klt_false.2 hlt
                have e1 : Op.bytesLess p1.toList s.toList = false := by rw [bytesLess_eq, toList_by, toList_by]; exact decide_eq_false hlt
                by_cases hroom : W.length < n + m2
                · have ir : (W.length : Int) < (n : Int) + (m2 : Int) := by omega
                  by_cases heq : p1 = s
                  · have heq2 := heq.symm
                    subst heq2
                    have e3 : (s.toList == s.toList) = true := by simp
                    have HE : Hid (wantP ps s (n + m2) (k2 + 1) = W ++ [(s, p2)]) := Lib.hid (by rw [HWS.out]; exact if_pos (And.intro hk hroom))
                    clear HWS
                    go_wp2_with (at_builtin; refine wpList_append_own _ rfl _ _ 47 rfl w5.heap.size 57 i0 (.agg #[.string ⟨#[]⟩, .string ⟨#[]⟩]) 2 32 Try.underlying47 hi hz0 hz1 hz2 rfl (by decide) _ W.length (pcells W) rfl (HR.out.alloc _) ⟨wr.heap.size, 0, none⟩ 1 1 [.string s, .string p2] rfl rfl (two_new _ _ _ _) (two_one _ _) (by unfold maxLen; omega) (by omega) (by have := hB2.size; simp; omega) ?_; intro v' w6 hown' hgrow hnil; obtain ⟨oa', oc', rfl⟩ := prow_any hown')
                    have hb6' : Below w5.heap.size w5 w6 := (hB2.alloc hB2.size _).grown hgrow (by have := hB2.size; simp; omega) (fun j e => (HR.out.lt j e).1)
                    go_roundw
                    case rel => exact ⟨k2 + 1, by omega, by go_num, by rw [HE.out, pcells_append, List.length_append]; exact hown', hb6'⟩
                    case measure => simp [intOf]; omega
                  · have e2 : Op.bytesLess s.toList p1.toList = true := by rw [bytesLess_eq, toList_by, toList_by]; exact decide_eq_true (lex_tri hlt (fun e => heq (by_inj e)))
                    have HE : Hid (wantP ps s (n + m2) (k2 + 1) = W ++ [(p1, p2)]) := Lib.hid (by rw [HWS.out]; exact if_pos (And.intro hk hroom))
                    clear HWS
                    go_wp2_with (at_builtin; refine wpList_append_own _ rfl _ _ 47 rfl w5.heap.size 57 i0 (.agg #[.string ⟨#[]⟩, .string ⟨#[]⟩]) 2 32 Try.underlying47 hi hz0 hz1 hz2 rfl (by decide) _ W.length (pcells W) rfl (HR.out.alloc _) ⟨wr.heap.size, 0, none⟩ 1 1 [.string p1, .string p2] rfl rfl (two_new _ _ _ _) (two_one _ _) (by unfold maxLen; omega) (by omega) (by have := hB2.size; simp; omega) ?_; intro v' w6 hown' hgrow hnil; obtain ⟨oa', oc', rfl⟩ := prow_any hown')
                    have hb6' : Below w5.heap.size w5 w6 := (hB2.alloc hB2.size _).grown hgrow (by have := hB2.size; simp; omega) (fun j e => (HR.out.lt j e).1)
                    go_roundw
                    case rel => exact ⟨k2 + 1, by omega, by go_num, by rw [HE.out, pcells_append, List.length_append]; exact hown', hb6'⟩
                    case measure => simp [intOf]; omega
                · have ir : ¬ (W.length : Int) < (n : Int) + (m2 : Int) := by omega
                  by_cases heq : p1 = s
                  · have heq2 := heq.symm
                    subst heq2
                    have e3 : (s.toList == s.toList) = true := by simp
                    have HE : Hid (wantP ps s (n + m2) (k2 + 1) = W) := Lib.hid (by rw [HWS.out]; exact if_neg (by intro h; exact hroom h.2))
                    clear HWS
                    go_wp2
                    go_roundw
                    case rel => exact ⟨k2 + 1, by omega, by go_num, by rw [HE.out]; exact HR.out, hB2⟩
                    case measure => simp [intOf]; omega
                  · have e2 : Op.bytesLess s.toList p1.toList = true := by rw [bytesLess_eq, toList_by, toList_by]; exact decide_eq_true (lex_tri hlt (fun e => heq (by_inj e)))
                    have HE : Hid (wantP ps s (n + m2) (k2 + 1) = W) := Lib.hid (by rw [HWS.out]; exact if_neg (by intro h; exact hroom h.2))
                    clear HWS
                    go_wp2
                    go_roundw
                    case rel => exact ⟨k2 + 1, by omega, by go_num, by rw [HE.out]; exact HR.out, hB2⟩
                    case measure => simp [intOf]; omega
            · obtain rfl : k2 = ps.length := by omega
              have hwe := wantP_end HSO.out s (n + m2)
              obtain ⟨oa, oc, rfl⟩ := prow_any hrow
              rw [hwe] at hrow ⊢
              clear hwe
              obtain ⟨D, hD⟩ : ∃ D, D = ps.drop (posP ps s) := ⟨_, rfl⟩
              obtain ⟨X, hX⟩ : ∃ X, X = D.take (n + m2) := ⟨_, rfl⟩
              obtain ⟨Y, hY⟩ : ∃ Y, Y = D.take n := ⟨_, rfl⟩
              rw [← hD, ← hX] at hrow ⊢
              have HD := Lib.hid hD
              have HX := Lib.hid hX
              have HY := Lib.hid hY
              have hXs : ∀ p ∈ X, p.1.size ≤ 1000 ∧ p.2.size ≤ 1000 := fun p hp => by
                rw [hX, hD] at hp
                have := HSM.out p (List.mem_of_mem_drop (List.mem_of_mem_take hp))
                omega
              have hYs : ∀ p ∈ Y, p.1.size ≤ 16 ∧ p.2.size ≤ 32 := fun p hp => by
                rw [hY, hD] at hp
                exact HSM.out p (List.mem_of_mem_drop (List.mem_of_mem_take hp))
              have hXY : Y = X.take Y.length ∧ Y.length ≤ X.length ∧ Y.length = min n X.length ∧ X.length ≤ 16 := by
                have e1 : Y.length = min n D.length := by rw [hY]; simp
                have e2 : X.length = min (n + m2) D.length := by rw [hX]; simp
                refine ⟨?_, by omega, by omega, by omega⟩
                rw [e1, hY, hX, List.take_take]
                apply List.ext_getElem?
                intro j
                rw [List.getElem?_take, List.getElem?_take]
                by_cases hj : j < n
                · by_cases hj2 : j < D.length
                  · rw [if_pos hj, if_pos (by omega)]
                  · rw [if_pos hj, List.getElem?_eq_none (by omega)]; simp
                · rw [if_neg hj, if_neg (by omega)]
              have HXY := Lib.hid hXY
              have hxl := hXY.2.1
              have HXM := Lib.hid hXY.2.2.1
              have hx16 := hXY.2.2.2
              have HXS := Lib.hid hXs
              have HYS := Lib.hid hYs
              have hq := hn5.trans (hB2.mono hn5.size)
              have HSX := Lib.hid (fun W (hb : Below wr.heap.size wr W) => scan_val (HBR.out W (hq.trans (hb.mono hq.size))) (by omega) h16 (n := (n : Int) + (m2 : Int)) (N := n + m2) (by omega) (by omega) (L := X) (by rw [HX.out, HD.out]) rfl)
              have HSY := Lib.hid (fun nl (hl : Y.length = nl) W (hb : Below wr.heap.size wr W) => scan_val (HBR.out W (hq.trans (hb.mono hq.size))) (by omega) h16 (n := (n : Int)) (N := n) rfl (by omega) (L := Y) (by rw [HY.out, HD.out]) hl)
              have HWT := Lib.hid (prow_isp (show PRow wr w5.heap.size (.slice oa X.length oc) X from hrow) hXs)
              have hoc : X.length ≤ oc ∧ oc ≤ 9223372036854775807 := by
                obtain ⟨a', c', e, _, h1, h2⟩ := prow_is (show PRow wr w5.heap.size (.slice oa X.length oc) X from hrow) hXs
                simp only [Value.slice.injEq] at e
                omega
              have hb0 := Below.refl wr.heap.size wr
              have hyl : ∃ yl, Y.length = yl := ⟨_, rfl⟩
              obtain ⟨yl, hyl⟩ := hyl
              have hmn : min (n : Int) (X.length : Int) = ((yl : Nat) : Int) := by have := HXM.out; omega
              have hxl : yl ≤ X.length := by omega
              have HYL := Lib.hid hyl
              have iyo : ((yl : Nat) : Int) ≤ (oc : Int) := by omega
              have iyp : (0 : Int) ≤ ((yl : Nat) : Int) := by omega
              clear hD hX hY hXs hYs hXY hrow hkl hk2 hWl hyl
              cases yl with
              | zero =>
                go_wp2_with (first
                  | (go_at_call 37; refine (HSX.out _ hb0).mono ?_; clear HSX; rintro e w6 ⟨xa, xc, rfl, hi6, hx6, hn6⟩)
                  | (go_at_call 37; refine (HSY.out _ HYL.out _ hn6).mono ?_; clear HSY; rintro e w7 ⟨ya, yc, rfl, hi7, hy7, hn7⟩; have hb7 := hn6.trans (hn7.mono hn6.size); have HI1 := Lib.hid (hi6.below hn7); have HI2 := Lib.hid (HWT.out.below hb7); have HI3 := Lib.hid hi7; clear hi6 hi7)
                  | (go_at_call 32; refine (same_true' HI1.out HI2.out rfl (by omega) (by omega)).mono ?_; clear HI1; rintro e w8 ⟨rfl, hn8⟩)
                  | (go_at_call 32; refine (same_true' (HI3.out.below hn8) ((isPairs_take HI2.out hxl).below hn8) (by rw [← HYL.out]; exact HXY.out.1) (by omega) (by omega)).mono ?_; rintro e w9 ⟨rfl, hn9'⟩; have hb9 := hb7.trans ((hn8.trans (hn9'.mono hn8.size)).mono hb7.size)))
                go_ret
                exact ⟨rfl, hB1.trans ((hBr.trans ((hq.trans (hb9.mono hq.size)).mono hBr.size)).mono (by omega))⟩
              | succ j =>
                obtain ⟨q, hqY⟩ : ∃ q, Y[j]? = some q := ⟨_, List.getElem?_eq_getElem (by rw [HYL.out]; omega)⟩
                have hq16 := (HYS.out q (List.mem_of_getElem? hqY)).1
                obtain ⟨q1, q2⟩ := q
                simp only at hq16
                have HQY := Lib.hid hqY
                clear hqY
                by_cases hq6 : q1.size = 16
                · have iq : (q1.size : Int) = 16 := by omega
                  go_wp2_with (first
                    | (go_at_call 37; refine (HSX.out _ hb0).mono ?_; clear HSX; rintro e w6 ⟨xa, xc, rfl, hi6, hx6, hn6⟩)
                    | (go_at_call 37; refine (HSY.out _ HYL.out _ hn6).mono ?_; clear HSY; rintro e w7 ⟨ya, yc, rfl, hi7, hy7, hn7⟩; have hb7 := hn6.trans (hn7.mono hn6.size); have HI1 := Lib.hid (hi6.below hn7); have HI2 := Lib.hid (HWT.out.below hb7); have HI3 := Lib.hid hi7; clear hi6 hi7)
                    | (go_at_call 32; refine (same_true' HI1.out HI2.out rfl (by omega) (by omega)).mono ?_; clear HI1; rintro e w8 ⟨rfl, hn8⟩)
                    | (go_at_call 32; refine (same_true' (HI3.out.below hn8) ((isPairs_take HI2.out hxl).below hn8) (by rw [← HYL.out]; exact HXY.out.1) (by omega) (by omega)).mono ?_; rintro e w9 ⟨rfl, hn9'⟩; have hb9 := hb7.trans ((hn8.trans (hn9'.mono hn8.size)).mono hb7.size); obtain ⟨yg, yoff, rfl, hyg, hyc⟩ := (HI3.out.below (hn8.trans (hn9'.mono hn8.size))).2.2.resolve_left (by omega); obtain ⟨lc1, lc2⟩ := hyc j _ HQY.out; simp only at lc1 lc2; clear hyc))
                  go_ret
                  exact ⟨rfl, hB1.trans ((hBr.trans ((hq.trans (hb9.mono hq.size)).mono hBr.size)).mono (by omega))⟩
                · have iq : ((q1.size : Int) == 16) = false := by simp only [beq_eq_false_iff_ne, ne_eq]; omega
                  have hqs : (q1 ++ ⟨#[0]⟩ : ByteArray).size ≤ 16 := by
                    rw [ByteArray.size_append]
                    show q1.size + 1 ≤ 16
                    omega
                  obtain ⟨Z, hZ⟩ : ∃ Z, Z = (ps.drop (posP ps (q1 ++ ⟨#[0]⟩))).take m2 := ⟨_, rfl⟩
                  have HJ : Hid (Y ++ Z = X.take (min X.length (j + 1 + m2))) := Lib.hid (by
                    have hjn : j < n := by have := HYL.out; rw [HY.out, List.length_take] at this; omega
                    have hps : (keysP ps)[posP ps s + j]? = some q1 := by
                      have h1 := HQY.out
                      rw [HY.out, HD.out, List.getElem?_take_of_lt hjn, List.getElem?_drop] at h1
                      unfold keysP
                      rw [List.getElem?_map, h1]; rfl
                    rw [hZ, posP_after HSO.out hps, HY.out, HX.out, HD.out]
                    have h2 := scans_join (ps.drop (posP ps s)) n m2
                    have h3 : ((ps.drop (posP ps s)).take n).length = j + 1 := by have := HYL.out; rwa [HY.out, HD.out] at this
                    rw [h3] at h2
                    rw [← h2, List.drop_drop, Nat.add_assoc])
                  have hZs : ∀ p ∈ Z, p.1.size ≤ 1000 ∧ p.2.size ≤ 1000 := fun p hp => by
                    rw [hZ] at hp
                    have := HSM.out p (List.mem_of_mem_drop (List.mem_of_mem_take hp))
                    omega
                  have hZl : Z.length ≤ m2 := by rw [hZ]; simp; omega
                  have HSZ := Lib.hid (fun W (hb : Below wr.heap.size wr W) => scan_val (HBR.out W (hq.trans (hb.mono hq.size))) (by omega) hqs (n := (m2 : Int)) (N := m2) rfl (by omega) (L := Z) hZ rfl)
                  have HZS := Lib.hid hZs
                  clear hZ hZs
                  go_wp2_with (first
                    | (go_at_call 37; refine (HSX.out _ hb0).mono ?_; clear HSX; rintro e w6 ⟨xa, xc, rfl, hi6, hx6, hn6⟩)
                    | (go_at_call 37; refine (HSY.out _ HYL.out _ hn6).mono ?_; clear HSY; rintro e w7 ⟨ya, yc, rfl, hi7, hy7, hn7⟩; have hb7 := hn6.trans (hn7.mono hn6.size); have HI1 := Lib.hid (hi6.below hn7); have HI2 := Lib.hid (HWT.out.below hb7); have HI3 := Lib.hid hi7; have HPX := Lib.hid (prow_below hn7 hx6); have HI1b := Lib.hid (hi6.below hn7); clear hi6 hi7)
                    | (go_at_call 32; refine (same_true' HI1.out HI2.out rfl (by omega) (by omega)).mono ?_; clear HI1; rintro e w8 ⟨rfl, hn8⟩)
                    | (go_at_call 32; refine (same_true' (HI3.out.below hn8) ((isPairs_take HI2.out hxl).below hn8) (by rw [← HYL.out]; exact HXY.out.1) (by omega) (by omega)).mono ?_; rintro e w9 ⟨rfl, hn9'⟩; have hb9 := hb7.trans ((hn8.trans (hn9'.mono hn8.size)).mono hb7.size); have hb79 := hn8.trans (hn9'.mono hn8.size); obtain ⟨yg, yoff, rfl, hyg, hyc⟩ := (HI3.out.below hb79).2.2.resolve_left (by omega); obtain ⟨lc1, lc2⟩ := hyc j _ HQY.out; simp only at lc1 lc2; clear hyc)
                    | (go_at_call 37; refine (HSZ.out _ hb9).mono ?_; clear HSZ; rintro e w10 ⟨za_, zc_, rfl, hi10, hz10, hn10⟩))
                  have hb10 := hb9.trans (hn10.mono hb9.size)
                  have HYS2 := HYS
                  have hb710 := hb79.trans (hn10.mono hb79.size)
                  have HY10 := Lib.hid (pairs_at (by rw [HYL.out]) (HI3.out.below hb710) : ∀ w', Below w10.heap.size w10 w' → ∀ jj u, (pcells Y)[jj]? = some u → w'.cell? ((⟨yg, yoff, none⟩ : Addr).add jj) = some u)
                  have HX10 := Lib.hid (isPairs_take (HI1b.out.below hb710) (n := min X.length (j + 1 + m2)) (by omega))
                  have hmn2 : min (X.length : Int) ((j : Int) + 1 + (m2 : Int)) = ((min X.length (j + 1 + m2) : Nat) : Int) := by omega
                  have HLM := Lib.hid (show min X.length (j + 1 + m2) ≤ X.length by omega)
                  have hwp : IntKind.i64.wrap ((j : Int) + 1 + (m2 : Int)) = (j : Int) + 1 + (m2 : Int) := by
                    have : IntKind.i64.wrap (((j + 1 + m2 : Nat) : Int)) = ((j + 1 + m2 : Nat) : Int) := by unfold IntKind.wrap; simp [IntKind.signed, IntKind.bits]; omega
                    simpa using this
                  have hmn3 : min (X.length : Int) (((j + 1 : Nat) : Int) + (m2 : Int)) = ((min X.length (j + 1 + m2) : Nat) : Int) := by omega
                  have hxc : X.length ≤ xc := by
                    obtain ⟨a', c', e, _, h1, h2⟩ := prow_is HPX.out HXS.out
                    simp only [Value.slice.injEq] at e
                    omega
                  have hxm0 : min X.length (j + 1 + m2) ≤ 16 := by omega
                  generalize hxm : min X.length (j + 1 + m2) = xm at hmn2 hmn3 HX10 HLM HJ hxm0
                  have HXM2 := Lib.hid hxm
                  have ixo : ((xm : Nat) : Int) ≤ (xc : Int) := by have := HLM.out; omega
                  have ixp : (0 : Int) ≤ ((xm : Nat) : Int) := by omega
                  have hB100 := Below.refl w10.heap.size w10
                  have hYlen : Y.length = j + 1 := HYL.out
                  have HYl := Lib.hid hYlen
                  clear hxm hYlen lc1 lc2 hyg
                  rcases prow_slice hz10 with ⟨hz1, hz2⟩ | ⟨zg, zcap, hz1⟩
                  · simp only [Value.slice.injEq] at hz1
                    obtain ⟨rfl, hz3, rfl⟩ := hz1
                    have hZ0 : Z = [] := List.eq_nil_of_length_eq_zero hz2
                    subst hZ0
                    have hb100 := hB100
                    have HYl2 := Lib.hid (show ([] ++ Y : PS).length = j + 1 by rw [List.nil_append, HYl.out])
                    have HYZS := Lib.hid (show ∀ p ∈ ([] ++ Y : PS), p.1.size ≤ 1000 ∧ p.2.size ≤ 1000 from fun p hp => by
                      have := HYS2.out p (by simpa using hp); omega)
                    have HYZ : Hid (([] ++ Y : PS) = X.take xm) := Lib.hid (by have := HJ.out; rw [List.append_nil] at this; rw [List.nil_append]; exact this)
                    have hj16 : j + 1 ≤ 16 := by omega
                    have hbr1 := hBr.size
                    have hq1 := hq.size
                    try clear HDS
                    try clear HL
                    try clear HWT
                    try clear HI2
                    try clear HI3
                    try clear HI5
                    try clear HBR
                    try clear HSM
                    try clear HSO
                    try clear HXY
                    try clear HXS
                    try clear HYS
                    try clear HYS2
                    try clear HQY
                    try clear HYL
                    try clear HD
                    try clear HX
                    try clear HY
                    try clear HB
                    try clear hmn
                    try clear iyo
                    try clear iyp
                    try clear hoc
                    try clear hxl
                    try clear hx16
                    try clear hxc
                    try clear hqs
                    try clear hq16
                    try clear hq6
                    try clear hZl
                    try clear HZS
                    try clear HI1b
                    try clear HPX
                    try clear HXM
                    try clear HXM2
                    try clear HLM
                    try clear hz10
                    try clear hi10
                    try clear hx6
                    try clear hy7
                    try clear hn7
                    try clear hn8
                    try clear hn9'
                    try clear hb7
                    try clear hb79
                    try clear hb710
                    try clear hwr0
                    try clear hpl
                    try clear hk
                    try clear hk80
                    try clear hbody
                    try clear hlen
                    try clear h16
                    try clear i16
                    try clear iq
                    try clear hn6
                    try clear hb0
                    try clear hn3
                    try clear hK
                    try clear hM
                    try clear za
                    try clear zc
                    try clear hsz
                    try clear hn9
                    try clear hm9
                    go_region_held3 (fun w' => Below w10.heap.size w10 w')
                      ((first | assumption | exact Below.refl _ _ | exact (Below.refl _ _).drew | (go_split_ands; assumption) | (refine below_ald2 _ rfl ?_; first | exact Below.refl _ _ | exact (Below.refl _ _).drew | assumption) | (refine below_al2 _ rfl ?_; first | exact Below.refl _ _ | exact (Below.refl _ _).drew | assumption)))
                      (first
                        | (go_at_call 32; refine (same_true' (rowIs hown1 HYZS.out HYl2.out) (HX10.out.below ?_) HYZ.out ?_ ?_).mono ?_; assumption; omega; omega; (rintro e w12 ⟨rfl, hn12⟩; have hn12F : Below w10.heap.size w10 w12 := below_chain (by assumption) hn12))
                        | (refine step_appP (by rfl) _ _ (by rfl) w10 _ 0 [] (by rfl) _ _ _ Y (by rfl) (by assumption) (pown_empty w10 _ _ (by first | exact Nat.le_refl _ | omega) (by first | exact heap_alloc_new _ _ | exact World.alloc_heap_new _ _)) HYl.out (HY10.out _ (by assumption)) (by omega) ?_; intro v1 wa hown1 hgrow1 hat1 hbel1; rw [Nat.zero_add] at hown1; obtain ⟨ag, acap, rfl⟩ := (prow_slice hown1).resolve_left (fun e => by have := e.2; omega); have hac := own_le hown1)
                        | (refine step_append_nil (by rfl) _ _ _ (by rfl) _ i0 Try.underlying47 hi _ _ _ (by rfl) hac (by rfl) ?_)
                        | fail)
                    all_goals
                      go_wp2
                      go_ret
                      exact ⟨rfl, hB1.trans ((hBr.trans ((hq.trans ((hb10.trans (hn12F.mono hb10.size)).mono hq1)).mono hbr1)).mono (by omega))⟩
                  · simp only [Value.slice.injEq] at hz1
                    obtain ⟨rfl, _, rfl⟩ := hz1
                    have HYZl := Lib.hid (show (Y ++ Z).length = j + 1 + Z.length by rw [List.length_append, HYl.out])
                    have HYZS := Lib.hid (show ∀ p ∈ Y ++ Z, p.1.size ≤ 1000 ∧ p.2.size ≤ 1000 from fun p hp => by
                      rcases List.mem_append.1 hp with h | h
                      · have := HYS2.out p h; omega
                      · exact HZS.out p h)
                    have HZ10 := Lib.hid (pairs_at rfl hi10 : ∀ w', Below w10.heap.size w10 w' → ∀ jj u, (pcells Z)[jj]? = some u → w'.cell? ((⟨zg, 0, none⟩ : Addr).add jj) = some u)
                    have hb100 := hB100
                    have hj16 : j + 1 ≤ 16 := by omega
                    have hz16 : Z.length ≤ 16 := by omega
                    have hbr1 := hBr.size
                    have hq1 := hq.size
                    try clear HDS
                    try clear HL
                    try clear HWT
                    try clear HI2
                    try clear HI3
                    try clear HI5
                    try clear HBR
                    try clear HSM
                    try clear HSO
                    try clear HXY
                    try clear HXS
                    try clear HYS
                    try clear HYS2
                    try clear HQY
                    try clear HYL
                    try clear HD
                    try clear HX
                    try clear HY
                    try clear HB
                    try clear hmn
                    try clear iyo
                    try clear iyp
                    try clear hoc
                    try clear hxl
                    try clear hx16
                    try clear hxc
                    try clear hqs
                    try clear hq16
                    try clear hq6
                    try clear hZl
                    try clear HZS
                    try clear HI1b
                    try clear HPX
                    try clear HXM
                    try clear HXM2
                    try clear HLM
                    try clear hz10
                    try clear hi10
                    try clear hx6
                    try clear hy7
                    try clear hn7
                    try clear hn8
                    try clear hn9'
                    try clear hb7
                    try clear hb79
                    try clear hb710
                    try clear hwr0
                    try clear hpl
                    try clear hk
                    try clear hk80
                    try clear hbody
                    try clear hlen
                    try clear h16
                    try clear i16
                    try clear iq
                    try clear hn6
                    try clear hb0
                    try clear hn3
                    try clear hK
                    try clear hM
                    try clear za
                    try clear zc
                    try clear hsz
                    try clear hn9
                    try clear hm9
                    go_region_held3 (fun w' => Below w10.heap.size w10 w')
                      ((first | assumption | exact Below.refl _ _ | exact (Below.refl _ _).drew | (go_split_ands; assumption) | (refine below_ald2 _ rfl ?_; first | exact Below.refl _ _ | exact (Below.refl _ _).drew | assumption) | (refine below_al2 _ rfl ?_; first | exact Below.refl _ _ | exact (Below.refl _ _).drew | assumption)))
                      (first
                        | (go_at_call 32; refine (same_true' (rowIs hown2 HYZS.out HYZl.out) (HX10.out.below ?_) HJ.out ?_ ?_).mono ?_; assumption; omega; omega; (rintro e w12 ⟨rfl, hn12⟩; have hn12F : Below w10.heap.size w10 w12 := below_chain (by assumption) hn12))
                        | (refine step_appP (by rfl) _ _ (by rfl) w10 _ 0 [] (by rfl) _ _ _ Y (by rfl) (by assumption) (pown_empty w10 _ _ (by first | exact Nat.le_refl _ | omega) (by first | exact heap_alloc_new _ _ | exact World.alloc_heap_new _ _)) HYl.out (HY10.out _ (by assumption)) (by omega) ?_; intro v1 wa hown1 hgrow1 hat1 hbel1; rw [Nat.zero_add] at hown1; obtain ⟨ag, acap, rfl⟩ := (prow_slice hown1).resolve_left (fun e => by have := e.2; omega))
                        | (refine step_appP (by rfl) _ _ (by rfl) w10 _ _ Y (by rfl) _ _ _ Z (by rfl) (by assumption) (by first | exact hown1 | exact hown1.drew) rfl (HZ10.out _ (by assumption)) (by omega) ?_; intro v2 wb hown2 hgrow2 hat2 hbel2; obtain ⟨bg, bcap, rfl⟩ := (prow_slice hown2).resolve_left (fun e => by have := e.2; omega))
                        | fail)
                    all_goals
                      go_wp2
                      go_ret
                      exact ⟨rfl, hB1.trans ((hBr.trans ((hq.trans ((hb10.trans (hn12F.mono hb10.size)).mono hq1)).mono hbr1)).mono (by omega))⟩
  · have i16 : (16 : Int) < (s.size : Int) := by omega
    go_enter Try.func10, Try.ntmps10
    go_wp2_with (go_at_call 27; refine (awake_any _).mono ?_; rintro e w3 ⟨rfl, hn3⟩; rw [← hw1] at hn3)
    go_ret
    exact ⟨rfl, hB1.trans (hn3.mono (by omega))⟩

end Go.Proofs.Ytgfhaldfjnepmaa
