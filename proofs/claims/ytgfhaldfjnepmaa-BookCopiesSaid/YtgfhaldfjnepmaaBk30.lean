/- Walk: the law BookCopies returns true, whatever the limits and the two lists of operations. -/
import Derived.Test.YtgfhaldfjnepmaaBkC1
import Derived.Deep.CutRange
namespace Go.Proofs.Ytgfhaldfjnepmaa
open Go Go.RowKit Go.Shelf Go.Proofs
attribute [local go_sem] Oper.semAt_some

/-- A block that holds one value. -/
def OneBlk (w : World) (k : Nat) (t : TypeId) (x : Value) : Prop := w.heap[k]? = some (.cells #[x] t (0, 0))
theorem OneBlk.cell {w : World} {k : Nat} {t : TypeId} {x : Value} (h : OneBlk w k t x) : w.cell? ⟨k, 0, none⟩ = some x := by unfold OneBlk at h; simp [World.cell?, h]
theorem OneBlk.frozen {w : World} {k : Nat} {t : TypeId} {x : Value} (h : OneBlk w k t x) (j : Nat) : w.frozen? ⟨k, j, none⟩ = false := by unfold OneBlk at h; simp [World.frozen?, h]
theorem OneBlk.lt {w : World} {k : Nat} {t : TypeId} {x : Value} (h : OneBlk w k t x) : k < w.heap.size := (Array.getElem?_eq_some_iff.1 h).1
theorem OneBlk.below {w w' : World} {B k : Nat} {t : TypeId} {x : Value} (h : OneBlk w k t x) (hk : k < B) (hb : Below B w w') : OneBlk w' k t x := (hb.block k hk).trans h
theorem OneBlk.turned {B b m : Nat} {v v' : Value} {w w' : World} {K M : Nat} {ps : PS} (hB : BookAt w B b m v K M ps) (ht : Turned b m v w v' w') {k : Nat} {t : TypeId} {x : Value} (h : OneBlk w k t x) (h1 : t ≠ 95) (h2 : t ≠ 9) : OneBlk w' k t x := ht.cells_stay hB h h1 h2
theorem OneBlk.new (w : World) (t : TypeId) (x : Value) : OneBlk (w.alloc (.cells #[x] t)) w.heap.size t x := World.alloc_heap_new _ _
theorem OneBlk.set3 {w : World} {k : Nat} {t : TypeId} {x : Value} (h : OneBlk w k t x) {j : Nat} {p q r p' q' r' : Value} (hj : RefBlk w j p q r) : OneBlk (set3 w j p' q' r') k t x := by
  refine (set3_other _ _ _ _ _ _ ?_).trans h
  rintro rfl
  unfold OneBlk at h
  unfold RefBlk at hj
  rw [hj] at h
  cases h

theorem two_refs (w : World) (x y z : Value) : RefBlk ((w.alloc (.cells #[x, y, z] 62)).alloc (.cells #[x, y, z] 62)).drew w.heap.size x y z ∧ RefBlk ((w.alloc (.cells #[x, y, z] 62)).alloc (.cells #[x, y, z] 62)).drew (w.heap.size + 1) x y z ∧ Below w.heap.size w ((w.alloc (.cells #[x, y, z] 62)).alloc (.cells #[x, y, z] 62)).drew := by
  have h2 := RefBlk.new (w.alloc (.cells #[x, y, z] 62)) x y z
  rw [World.size_alloc] at h2
  exact ⟨RefBlk.heap (key1 _ _ _ _ (RefBlk.new w x y z)) rfl, RefBlk.heap h2 rfl, (((Below.refl _ _).alloc (Nat.le_refl _) _).alloc (by simp) _).drew⟩

set_option linter.unusedSimpArgs false in
set_option linter.unusedVariables false in
set_option maxRecDepth 100000 in
set_option maxHeartbeats 16000000 in
theorem law_BookCopies (K M : Nat) (hK : K < 2 ^ 64) (hM : M < 2 ^ 64) (a : Option Addr) (len cap : Nat) (ds : List Deed) (a2 : Option Addr) (len2 cap2 : Nat) (ds2 : List Deed) (w : World) (hds : IsDeeds w a len ds) (hds2 : IsDeeds w a2 len2 ds2) :
    Calls Try.prog 12 #[.agg #[.int .u64 K, .int .u64 M], .slice a len cap, .slice a2 len2 cap2] w fun e w' => e = .returned (.bool true) ∧ Below w.heap.size w w' := by
  obtain ⟨w1, hw1⟩ : ∃ w1, w1 = (w.alloc (.cells #[.int .u64 K, .int .u64 M] 41)).alloc (.cells #[.slice a2 len2 cap2] 42) := ⟨_, rfl⟩
  have hB1 : Below w.heap.size w w1 := by rw [hw1]; exact ((Below.refl w.heap.size w).alloc (Nat.le_refl _) _).alloc (by simp) _
  have hl0 : w1.heap[w.heap.size]? = some (.cells #[.int .u64 K, .int .u64 M] 41) := by rw [hw1]; exact key1 _ _ _ _ (World.alloc_heap_new _ _)
  have hm0 : OneBlk w1 (w.heap.size + 1) 42 (.slice a2 len2 cap2) := by
    rw [hw1]
    have := OneBlk.new (w.alloc (.cells #[.int .u64 K, .int .u64 M] 41)) 42 (.slice a2 len2 cap2)
    rw [World.size_alloc] at this
    exact this
  have hs1 : w1.heap.size = w.heap.size + 1 + 1 := by rw [hw1]; simp
  have HDS := Lib.hid (fun w' (hb : Below w1.heap.size w1 w') => (hds.below hB1).below hb)
  have HDT := Lib.hid (fun w' (hb : Below w1.heap.size w1 w') => (hds2.below hB1).below hb)
  have HL := Lib.hid (fun w' (hb : Below w1.heap.size w1 w') => (show (w'.cell? ⟨w.heap.size, 0, none⟩ = some (.int .u64 K) ∧ w'.cell? ⟨w.heap.size, 1, none⟩ = some (.int .u64 M)) ∧ w'.cell? ⟨w.heap.size + 1, 0, none⟩ = some (.slice a2 len2 cap2) by
    have e := (hb.block w.heap.size (by omega)).trans hl0
    refine ⟨?_, (hm0.below (by omega) hb).cell⟩
    constructor <;> simp [World.cell?, e]))
  have hlen := hds.2.1
  have hlen2 := hds2.2.1
  clear hds hds2 hl0 hm0
  obtain ⟨⟨c1, c2⟩, c3⟩ := HL.out w1 (Below.refl _ _)
  rw [hw1] at c1 c2 c3
  refine (callsIn_wide (n := 6)).1 ?_
  refine callsIn_of_wp_marks Try.func12 rfl trivial ?_ rfl
  refine wpIn_wide.2 ?_
  simp only [Try.ntmps12, List.size_toArray, List.length_cons, List.length_nil, Nat.reduceAdd, Nat.reduceSub, Array.replicate_succ, Array.replicate_zero, List.push_toArray, List.append_toArray, List.nil_append, List.cons_append]
  by_cases hbig : 80 < len ∨ 80 < len2
  · by_cases h80 : 80 < len
    · have i1 : (80 : Int) < (len : Int) := by omega
      go_wp2_with (go_at_call 27; refine (awake_any _).mono ?_; rintro e w3 ⟨rfl, hn3⟩; rw [← hw1] at hn3)
      exact ⟨.bool true, by simp [results, Try.f12, go_sem], rfl, hB1.trans (hn3.mono hB1.size)⟩
    · have i1 : decide ((80 : Int) < (len : Int)) = false := decide_eq_false (by omega)
      have i2 : (80 : Int) < (len2 : Int) := by omega
      go_wp2_with (go_at_call 27; refine (awake_any _).mono ?_; rintro e w3 ⟨rfl, hn3⟩; rw [← hw1] at hn3)
      exact ⟨.bool true, by simp [results, Try.f12, go_sem], rfl, hB1.trans (hn3.mono hB1.size)⟩
  · have i1 : decide ((80 : Int) < (len : Int)) = false := decide_eq_false (by omega)
    have i2 : ¬ (80 : Int) < (len2 : Int) := by omega
    have hl80 : len ≤ 80 := by omega
    have hl82 : len2 ≤ 80 := by omega
    clear hbig
    go_wp2_with (go_at_call 28; refine (new_any K M _ hK hM).mono ?_; rintro e w4 ⟨b, m, rfl, hbk, hn4⟩; rw [← hw1] at hn4 hbk; clear c1 c2 c3; obtain ⟨⟨c1, c2⟩, c3⟩ := HL.out _ hn4; have hn4' := hn4.alloc hn4.size (.cells #[.pointer (some ⟨b, 0, none⟩)] 43); obtain ⟨⟨l1, l2⟩, l3⟩ := HL.out _ hn4')
    clear hw1 c1 c2 c3 l1 l2 l3 i1 i2
    obtain ⟨w5, hw5⟩ : ∃ w5, w5 = (w4.alloc (.cells #[.pointer (some ⟨b, 0, none⟩)] 43)).alloc (.cells #[.slice none 0 0, .int .u64 K, .int .u64 M] 62) := ⟨_, rfl⟩
    rw [← hw5]
    have hn45 : Below w4.heap.size w4 w5 := by rw [hw5]; exact ((Below.refl _ _).alloc (Nat.le_refl _) _).alloc (by simp) _
    have htb : OneBlk w5 w4.heap.size 43 (.pointer (some ⟨b, 0, none⟩)) := by rw [hw5]; exact key1 _ _ _ _ (OneBlk.new _ _ _)
    have hrb : RefBlk w5 (w4.heap.size + 1) (.slice none (List.length ([] : PS)) 0) (.int .u64 K) (.int .u64 M) := by
      rw [hw5]
      have := RefBlk.new (w4.alloc (.cells #[.pointer (some ⟨b, 0, none⟩)] 43)) (.slice none 0 0) (.int .u64 K) (.int .u64 M)
      rw [World.size_alloc] at this
      exact this
    have hb5 : Below w1.heap.size w1 w5 := hn4.trans (hn45.mono hn4.size)
    have hsz5 := hb5.size
    have HBK := Lib.hid (hbk.below hn45)
    have hp0 : PRow w5 0 (.slice none (List.length ([] : PS)) 0) [] := prow_nil _ _
    have hmb : w1.heap.size ≤ w4.heap.size := hn4.size
    clear hw5 hbk hn4 hn45 hn4'
    generalize w4.heap.size = tb at *
    go_loopw [9] (fun i wr => ∃ (k : Nat) (v : Value) (ps : PS) (ra : Option Addr) (rc : Nat), k ≤ len ∧ i = .int .i64 k ∧ Hid (BookAt wr w1.heap.size b m v K M ps) ∧ ps.length ≤ k ∧ OneBlk wr tb 43 (.pointer (some ⟨b, 0, none⟩)) ∧ RefBlk wr (tb + 1) (.slice ra ps.length rc) (.int .u64 K) (.int .u64 M) ∧ PRow wr 0 (.slice ra ps.length rc) ps ∧ Below w1.heap.size w1 wr ∧ w1.heap.size ≤ wr.heap.size) (fun i _ => 80 - (intOf i).toNat)
    case atStart => exact ⟨0, _, [], none, 0, Nat.zero_le _, rfl, HBK, Nat.le_refl _, htb, hrb, hp0, hb5, hsz5⟩
    case round =>
      clear HBK hrb htb hp0 hb5 hsz5
      obtain ⟨k, v, ps, ra, rc, hk, rfl, HB, hpl, htb, hrb, hpr, hBr, hszr⟩ := hrel
      by_cases hk1 : k < len
      · obtain ⟨g, off, d, rfl, hd, d0, d1, d2, d3, d4, z1, z2, z3, z4, z5⟩ := deed_cells_at (HDS.out _ (Below.refl _ _)) hk1
        have HDC := Lib.hid (fun w' (hb : Below w1.heap.size w1 w') => And.intro (cell_below hb d0) (And.intro (cell_below hb d1) (And.intro (cell_below hb d2) (And.intro (cell_below hb d3) (cell_below hb d4)))))
        clear d0 d1 d2 d3 d4
        obtain ⟨d0, d1, d2, d3, d4⟩ := HDC.out _ hBr
        have HF := Lib.hid (fits_any d wr z1 z2 z3)
        have HTB := Lib.hid htb
        have HRB := Lib.hid hrb
        have HPR := Lib.hid hpr
        clear hd htb hrb hpr
        cases hfit : fitsB d with
        | false =>
          rw [hfit] at HF
          go_wp2_with (go_at_call 29; refine HF.out.mono ?_; rintro e w5 ⟨rfl, hn5⟩)
          have HB5 := Lib.hid (HB.out.below hn5)
          have hb5 := hBr.trans (hn5.mono hBr.size)
          have htb5 := HTB.out.below HTB.out.lt hn5
          have hrb5 := HRB.out.below HRB.out.lt hn5
          have hpr5 := prow_below hn5 HPR.out
          go_roundw
          case rel => exact ⟨k + 1, v, ps, ra, rc, by omega, by go_num, HB5, by omega, htb5, hrb5, hpr5, hb5, hb5.size⟩
          case measure => simp [intOf]; omega
        | true =>
          rw [hfit] at HF
          have hfx := hfit
          simp only [fitsB, Bool.and_eq_true, decide_eq_true_eq] at hfx
          obtain ⟨f1, f2, f3⟩ := hfx
          go_wp2_with (first
            | (go_at_call 29; refine HF.out.mono ?_; rintro e w5 ⟨rfl, hn5⟩))
          have HB5 := Lib.hid (fun W (hb : Below w5.heap.size w5 W) => (HB.out.below hn5).below hb)
          have hb5 := hBr.trans (hn5.mono hBr.size)
          have hsz5 := hn5.size
          have hrb5 := HRB.out.below (HRB.out.lt) hn5
          have htb5 := HTB.out.below (HTB.out.lt) hn5
          have hlow : ∀ W v', Turned b m v w5 v' W → Below w1.heap.size w1 W := fun W v' ht => hb5.trans (Turned.below (HB5.out w5 (Below.refl _ _)) ht (by omega))
          have HT := Lib.hid (fun (W : World) (v' : Value) (ht : Turned b m v w5 v' W) => And.intro (htb5.turned (HB5.out w5 (Below.refl _ _)) ht (by decide) (by decide)) (And.intro (hrb5.turned (HB5.out w5 (Below.refl _ _)) ht) (hlow W v' ht)))
          have c0 := htb5.cell
          obtain ⟨m0, m1, m2⟩ := hrb5.cells
          obtain ⟨d0, d1, d2, d3, d4⟩ := HDC.out _ hb5
          have HD := Lib.hid (fun W (hb : Below w5.heap.size w5 W) => does_any W (HB5.out W hb) (by omega) (by have := hb.size; omega) ra rc (prow_below hb (prow_below hn5 HPR.out)) d (by omega) (by omega) (by omega) z4 z5)
          unfold deedV DoesPost at HD
          have HTT := Lib.hid (fun (X : World) (v' : Value) (W : World) (hb : Below w5.heap.size w5 X) (ht : Turned b m v X v' W) => Turned.trans (Turned.of_below hb) ht)
          have HQL := Lib.hid (actQ_len (K := K) (M := M) HB.out.sorted d)
          generalize actQ K M ps d = Q at *
          clear hlow hrb5 htb5
          refine wp_region_noPanic ?_
          go_region_with (go_at_call 38
                          refine (HD.out _ (by first | exact Below.refl _ _ | exact (Below.refl _ _).drew)).mono ?_
                          rintro e w6 ⟨a6, c6, v6, rfl, k6, p6, t6, _⟩
                          have t7 := HTT.out _ _ _ (by first | exact Below.refl _ _ | exact (Below.refl _ _).drew) t6
                          obtain ⟨x1, x2, x3⟩ := HT.out _ _ t7
                          obtain ⟨⟨y0, y1, y2⟩, yf⟩ := And.intro x2.cells x2.frozen)
          all_goals
            refine NoPanic.normal ?_
            have k9 := Lib.hid (BookAt.set3 (x' := .slice a6 Q.length c6) (y' := .int .u64 K) (z' := .int .u64 M) k6 x2)
            have p9 := prow_set3 (x' := .slice a6 Q.length c6) (y' := .int .u64 K) (z' := .int .u64 M) p6 x2
            have m9 := set3_same (x' := .slice a6 Q.length c6) (y' := .int .u64 K) (z' := .int .u64 M) x2
            have b9 := set3_below x3 (show w1.heap.size ≤ tb + 1 by omega) (.slice a6 Q.length c6) (.int .u64 K) (.int .u64 M)
            have o9 := x1.set3 (p' := .slice a6 Q.length c6) (q' := .int .u64 K) (r' := .int .u64 M) x2
            have ql := HQL.out
            have bs9 := b9.size
            go_wp2
            go_roundw
            case rel => exact ⟨k + 1, v6, Q, a6, c6, by omega, by go_num, k9, by omega, o9, m9, p9, b9, bs9⟩
            case measure => simp [intOf]; omega
      · obtain rfl : len = k := by omega
        have hpl82 : ps.length ≤ 80 := by omega
        have HCP := Lib.hid (copy_any wr HB.out (by omega))
        have c0 := htb.cell
        have htlt := hrb.lt
        have hralt : ∀ ad, ra = some ad → ad.block < wr.heap.size := fun ad e => (hpr.lt ad.block (by rw [e]; rfl)).2
        have HTB := Lib.hid htb
        have HRB := Lib.hid hrb
        have HPR := Lib.hid hpr
        clear htb hrb hpr
        go_wp2_with (go_at_call 42; refine HCP.out.mono ?_; clear HCP; rintro e w6 ⟨c, mc, vc, rfl, hck, hn6⟩)
        have htb6 := HTB.out.below HTB.out.lt hn6
        have hrb6 := HRB.out.below HRB.out.lt hn6
        have hb6 := hBr.trans (hn6.mono hBr.size)
        have HB6 := Lib.hid (HB.out.below hn6)
        have HCK := Lib.hid hck
        have HPR6 := Lib.hid (prow_below hn6 HPR.out)
        have hsz6 := hn6.size
        obtain ⟨m0, m1, m2⟩ := hrb6.cells
        clear hck c0 HTB HRB HPR
        go_cut [11, 12] from 18 to 133 (fun s11 s12 W => ∃ nb ob, s11 = .pointer (some ⟨nb, 0, none⟩) ∧ s12 = .pointer (some ⟨ob, 0, none⟩) ∧ RefBlk W nb (.slice ra ps.length rc) (.int .u64 K) (.int .u64 M) ∧ RefBlk W ob (.slice ra ps.length rc) (.int .u64 K) (.int .u64 M) ∧ nb ≠ ob ∧ w6.heap.size ≤ nb ∧ w6.heap.size ≤ ob ∧ Below w6.heap.size w6 W)
        case first =>
          have HCS := Lib.hid (fun w' (hb : Below w6.heap.size w6 w') => keep_cells (P := fun w' => w'.cell? ⟨tb + 1, 0, none⟩ = some (.slice ra ps.length rc) ∧ w'.cell? ⟨tb + 1, 1, none⟩ = some (.int .u64 K) ∧ w'.cell? ⟨tb + 1, 2, none⟩ = some (.int .u64 M)) (fun w' hb => (hrb6.below hrb6.lt hb).cells) hb)
          have hst := HCS.out w6 (Below.refl _ _)
          go_region_held3 (fun w' => (w'.cell? ⟨tb + 1, 0, none⟩ = some (.slice ra ps.length rc) ∧ w'.cell? ⟨tb + 1, 1, none⟩ = some (.int .u64 K) ∧ w'.cell? ⟨tb + 1, 2, none⟩ = some (.int .u64 M)) ∧ Below w6.heap.size w6 w')
            ((refine HCS.out _ ?_; repeat (first | exact Below.refl _ _ | refine nx_drew ?_ | refine nx_alloc _ ?_ | refine Below.setCell ?_ (by first | exact Nat.le_refl _ | (simp; done) | (simp; omega)) _)))
            (fail)
          all_goals
            obtain ⟨r1, r2, r3⟩ := two_refs w6 (.slice ra ps.length rc) (.int .u64 K) (.int .u64 M)
            go_wp2
            go_meet
            case rel =>
              first
                | exact ⟨_, _, rfl, rfl, r1, r2, by omega, by omega, by omega, r3⟩
                | exact ⟨_, _, rfl, rfl, r2, r1, by omega, by omega, by omega, r3⟩
        case rest =>
          obtain ⟨nb, ob, rfl, rfl, hnb, hob, hne, hn1, hn2, hbc⟩ := hcut
          have c0 := fun (o o' : Obj) => ((htb6.below htb6.lt hbc).below (Nat.lt_of_lt_of_le htb6.lt hbc.size) (nx_alloc o' (nx_alloc o (Below.refl wc.heap.size wc)))).cell
          have HTB := Lib.hid (htb6.below htb6.lt hbc)
          have HRB := Lib.hid (hrb6.below hrb6.lt hbc)
          have HPR := Lib.hid (prow_below hbc HPR6.out)
          have HBK := Lib.hid (HB6.out.below hbc)
          have HC := Lib.hid (HCK.out.below hbc)
          have HBW := Lib.hid HB.out
          have HNB := Lib.hid hnb
          have HOB := Lib.hid hob
          have hbw := hb6.trans (hbc.mono hb6.size)
          have hszc := hbc.size
          have hltc := HCK.out.lt
          have hmf : ∀ (fn : Fn) (first cap : Array Value) (w : World), (Instr.makeFunc fn first cap).run Try.prog w = .ok (.func fn first cap) w := fun _ _ _ _ => rfl
          have hltb := HBW.out.lt
          clear HB HB6 htb6 hrb6 HPR6 m0 m1 m2 hnb hob hn6 hb6 hBr HDS hbc
          go_wp2_with (go_at_call 43; refine (all_any b _).mono ?_; rintro e w' ⟨rfl, rfl⟩)
          have hw0 : (((wc.alloc (.cells #[.slice none 0 0] 47)).alloc (.cells #[.int .i64 0] 3)).alloc (.cells #[.pointer (some ⟨b, 0, none⟩)] 43)).heap.size = wc.heap.size + 3 := by simp
          obtain ⟨W0, hW0⟩ : ∃ W0, W0 = ((wc.alloc (.cells #[.slice none 0 0] 47)).alloc (.cells #[.int .i64 0] 3)).alloc (.cells #[.pointer (some ⟨b, 0, none⟩)] 43) := ⟨_, rfl⟩
          have hbW0 : Below wc.heap.size wc W0 := by rw [hW0]; exact nx_alloc _ (nx_alloc _ (nx_alloc _ (Below.refl _ _)))
          have g0 : W0.heap[wc.heap.size]? = some (.cells #[.slice none 0 0] 47) := by rw [hW0]; exact key1 _ _ _ _ (key1 _ _ _ _ (World.alloc_heap_new _ _))
          have g1 : W0.heap[wc.heap.size + 1]? = some (.cells #[.int .i64 0] 3) := by
            rw [hW0]
            have := World.alloc_heap_new (wc.alloc (.cells #[.slice none 0 0] 47)) (.cells #[.int .i64 0] 3)
            rw [World.size_alloc] at this
            exact key1 _ _ _ _ this
          have g2 : W0.heap[wc.heap.size + 2]? = some (.cells #[.pointer (some ⟨b, 0, none⟩)] 43) := by
            rw [hW0]
            have := World.alloc_heap_new ((wc.alloc (.cells #[.slice none 0 0] 47)).alloc (.cells #[.int .i64 0] 3)) (.cells #[.pointer (some ⟨b, 0, none⟩)] 43)
            rw [World.size_alloc, World.size_alloc] at this
            exact this
          rw [← hW0] at hw0 ⊢
          clear hW0
          have hszN : W0.heap.size = wc.heap.size + 3 := hw0
          refine (wpIn_wide (n := 6)).1 ?_
          try simp only [World.size_alloc]
          refine rangeFunc_open rfl (by omega) (gf := 75) (lb := #[.pointer (some ⟨wc.heap.size + 2, 0, none⟩)]) rfl trivial (enters_of Try.func75 (by kernel_rfl) rfl) ?_
          intro fn hfn
          rw [hszN]
          generalize hrec : recOf fn _ _ _ _ _ = rec
          have hst : ∀ st pe, (rec st pe).state = st := by intro st pe; rw [← hrec]; rfl
          have hup : ∀ st pe st' pe', ({ rec st pe with state := st', pending := pe' } : Loop) = rec st' pe' := by intro st pe st' pe'; rw [← hrec]; rfl
          have hup1 : ({ rec .ready none with state := .busy } : Loop) = rec .busy none := by rw [← hrec]; rfl
          obtain ⟨S0, hS0⟩ : ∃ S0, S0 = (W0.alloc (.deferred (some []))).alloc (.loop (rec .ready none)) := ⟨_, rfl⟩
          have hszS : S0.heap.size = wc.heap.size + 5 := by rw [hS0]; simp [hszN]
          have hbS : Below wc.heap.size wc S0 := by rw [hS0]; exact nx_alloc _ (nx_alloc _ hbW0)
          have s0 := key1 _ _ (.loop (rec .ready none)) _ (key1 _ _ (.deferred (some [])) _ g0)
          have s1 := key1 _ _ (.loop (rec .ready none)) _ (key1 _ _ (.deferred (some [])) _ g1)
          have s2 := key1 _ _ (.loop (rec .ready none)) _ (key1 _ _ (.deferred (some [])) _ g2)
          have sD : S0.heap[wc.heap.size + 3]? = some (.deferred (some [])) := by
            rw [hS0]
            have := World.alloc_heap_new W0 (.deferred (some []))
            rw [hszN] at this
            exact key1 _ _ _ _ this
          have sL : S0.heap[wc.heap.size + 4]? = some (.loop (rec .ready none)) := by
            rw [hS0]
            have := World.alloc_heap_new (W0.alloc (.deferred (some []))) (.loop (rec .ready none))
            rw [World.size_alloc, hszN] at this
            exact this
          rw [← hS0] at s0 s1 s2 ⊢
          clear hS0 g0 g1 g2 c0
          have hX : S0.cell? ⟨wc.heap.size + 2, 0, none⟩ = some (.pointer (some ⟨b, 0, none⟩)) := by simp [World.cell?, s2]
          have num : CopyNum w1.heap.size wr.heap.size c mc vc tb b m nb ob wc.heap.size ra :=
            ⟨hltb.1, hltb.2, htlt, hralt, ⟨HCK.out.hb, by omega⟩, ⟨HCK.out.hm, by omega⟩, fun g hg => ⟨(HCK.out.row.lt g hg).1, by have := (HCK.out.row.lt g hg).2; omega⟩, ⟨by omega, HNB.out.lt⟩, ⟨by omega, HOB.out.lt⟩, hne, hszr⟩
          have HPS := Lib.hid (fun p (hp : p ∈ ps) => show p.1.size ≤ 1000 ∧ p.2.size ≤ 1000 by have := HBW.out.small p hp; omega)
          have hvlt : ∀ g, v.ownBlock = some g → g < wr.heap.size := fun g hg => (HBW.out.row.lt g hg).2
          have HJ0 := Lib.hid (fun (W' : World) (hb : Below S0.heap.size S0 W') => by
            have hbc : Below wc.heap.size wc W' := hbS.trans (hb.mono (by omega))
            exact (show CopyJ w1 wr.heap.size c mc vc K M ps tb b m nb ob wc.heap.size ra rc (.loop (rec .ready none)) W'.heap.size 0 W' v ps ra rc (.slice none 0 0) 0 0 from
              ⟨⟨HC.out.below hbc, HTB.out.below HTB.out.lt hbc, HRB.out.below HRB.out.lt hbc, HOB.out.below HOB.out.lt hbc, prow_below hbc HPR.out⟩, HBK.out.below hbc, fun g hg => .inl (hvlt g hg), Nat.le_refl _, HNB.out.below HNB.out.lt hbc, prow_below hbc HPR.out,
                fun ad had => ⟨.inl (hralt ad had), by simp [Value.ownBlock]⟩, (hb.block _ (by omega)).trans s0, prow_nil _ _, (hb.block _ (by omega)).trans s1, (hb.block _ (by omega)).trans sD, (hb.block _ (by omega)).trans sL, hbw.trans (hbc.mono hbw.size), Nat.le_refl _⟩))
          have HBKS := Lib.hid (HBK.out.below hbS)
          rw [show wc.heap.size + 3 + 1 = wc.heap.size + 4 from rfl]
          generalize hNd : wc.heap.size = N at *
          refine (all1_in (6 - 1) (by omega) (N + 4) (N + 2) w1.heap.size b m v K M ps S0 HBKS.out (by omega) hX (fun N1 k W => ∃ vb pn an cn sv, CopyJ w1 wr.heap.size c mc vc K M ps tb b m nb ob N ra rc (.loop (rec .ready none)) N1 k W vb pn an cn sv k k) ?j0 ?jy).mono ?post
          case j0 =>
            intro W' hb
            exact ⟨_, _, _, _, _, HJ0.out W' hb⟩
          case jy =>
            rintro N1 k p W hN1 hN1W ⟨vb, pn, an, cn, sv, hJ⟩ hp
            rw [hszS] at hN1 ⊢
            clear s0 s1 s2 sD sL hX HJ0 HBKS HC HTB HRB HPR HBK HNB HOB HBW HCK hbS hbW0
            have hk : k < ps.length := (List.getElem?_eq_some_iff.1 hp).1
            have hl := hJ.lop
            have hl' := hl
            rw [← hrec] at hl'
            refine yield_open hl' rfl hfn ?_
            clear hl'
            gi_wp2
            have hpb := run_beginRound (P := Try.prog) hl (hst _ _)
            rw [hup1] at hpb
            refine ⟨_, hpb, ?_⟩
            clear hpb
            have hlt := (Array.getElem?_eq_some_iff.1 hl).1
            obtain ⟨hJ2, st2⟩ := hJ.loop num hN1 ⟨_, rfl⟩ (grownBy_putObj' W (N + 4) (.loop (rec .busy none))) (World.putObj_heap_same (w := W) (o := .loop (rec .busy none)) hlt)
            generalize W.putObj (N + 4) (.loop (rec .busy none)) = W2 at hJ2 st2 ⊢
            clear hJ hl
            have kv := OneBlk.cell (t := 47) hJ2.seen
            have hal := fun (o : Obj) => (hJ2.stay num hN1 ⟨_, rfl⟩ ((Below.refl W2.heap.size W2).alloc (Nat.le_refl _) o)).1
            have kva := fun (o : Obj) => OneBlk.cell (t := 47) (hal o).seen
            have hsl : (ps.take k).length + 1 ≤ 200000 := by simp; omega
            have HJ2 := Lib.hid hJ2
            have HAL := Lib.hid hal
            clear hJ2 hal
            by_cases hk2 : k < len2
            · obtain ⟨g, off, d, rfl, hd, d0, d1, d2, d3, d4, z1, z2, z3, z4, z5⟩ := deed_cells_at (HDT.out _ (Below.refl _ _)) hk2
              have HDC := Lib.hid (fun w' (hb : Below w1.heap.size w1 w') => And.intro (cell_below hb d0) (And.intro (cell_below hb d1) (And.intro (cell_below hb d2) (And.intro (cell_below hb d3) (cell_below hb d4)))))
              clear d0 d1 d2 d3 d4 hd
              have hd : decide ((k : Int) < (len2 : Int)) = true := decide_eq_true (by omega)
              have HF := Lib.hid (fun W => fits_any d W z1 z2 z3)
              cases hfit : fitsB d with
              | false =>
                rw [hfit] at HF
                gi_wp2_with (first
                  | (refine ⟨trivial, ?_⟩; gi_at_call 29; refine (callsIn_wide.2 (HF.out _)).mono ?_; rintro e w9 ⟨rfl, hn9⟩; obtain ⟨hJ5, st5⟩ := hJ4.stay num hN1 ⟨_, rfl⟩ hn9; have i1 := OneBlk.cell (t := 3) hJ5.ibk; have if1 := OneBlk.frozen (t := 3) hJ5.ibk)
                  | (gi_at_builtin; refine wpListIn_appF _ rfl _ _ rfl N1 sv (ps.take k) rfl (HAL.out _).srow ⟨W2.heap.size, 0, none⟩ 1 1 [(p.1, p.2)] rfl rfl (two_new _ _ _ _) hsl (by have := HJ2.out.sz; simp; omega) ?_; intro v' w8 q1 q2 q3 q4; obtain ⟨hJ4, st4⟩ := HJ2.out.append num hN1 ⟨_, rfl⟩ hp q1 q2 q3; obtain ⟨sa, sc, rfl, _⟩ := prow_form2 q1 (nn := k + 1) (by simp; omega); obtain ⟨ks, kf⟩ := seen_app HJ2.out (by omega) q2; have i0 := OneBlk.cell (t := 3) hJ4.ibk; have if0 := OneBlk.frozen (t := 3) hJ4.ibk; have m0 := (HL.out _ hJ4.low).2; obtain ⟨d0, d1, d2, d3, d4⟩ := HDC.out _ hJ4.low))
                obtain ⟨hJX, st6⟩ := hJ5.count num hN1 ⟨_, rfl⟩ ((k : Int) + 1) (k + 1) (by omega)
                have hend := hJX.lop
                have hlt3 := (Array.getElem?_eq_some_iff.1 hend).1
                obtain ⟨hJ9, st9⟩ := hJX.loop num hN1 ⟨_, rfl⟩ (grownBy_putObj' _ (N + 4) (.loop (rec .ready none))) (World.putObj_heap_same (o := .loop (rec .ready none)) hlt3)
                have hendr := run_endRound (P := Try.prog) none hend
                rw [hup] at hendr
                exact ⟨_, _, hendr, rfl, ⟨_, _, _, _, _, hJ9.later⟩, st2.trans (st4.trans (st5.trans (st6.trans st9)))⟩
              | true =>
                rw [hfit] at HF
                have hfx := hfit
                simp only [fitsB, Bool.and_eq_true, decide_eq_true_eq] at hfx
                obtain ⟨f1, f2, f3⟩ := hfx
                gi_wp2_with (first
                  | (refine ⟨trivial, ?_⟩; gi_at_call 29; refine (callsIn_wide.2 (HF.out _)).mono ?_; rintro e w9 ⟨rfl, hn9⟩; obtain ⟨hJ5, st5⟩ := hJ4.stay num hN1 ⟨_, rfl⟩ hn9)
                  | (gi_at_builtin; refine wpListIn_appF _ rfl _ _ rfl N1 sv (ps.take k) rfl (HAL.out _).srow ⟨W2.heap.size, 0, none⟩ 1 1 [(p.1, p.2)] rfl rfl (two_new _ _ _ _) hsl (by have := HJ2.out.sz; simp; omega) ?_; intro v' w8 q1 q2 q3 q4; obtain ⟨hJ4, st4⟩ := HJ2.out.append num hN1 ⟨_, rfl⟩ hp q1 q2 q3; obtain ⟨sa, sc, rfl, _⟩ := prow_form2 q1 (nn := k + 1) (by simp; omega); obtain ⟨ks, kf⟩ := seen_app HJ2.out (by omega) q2; have i0 := OneBlk.cell (t := 3) hJ4.ibk; have if0 := OneBlk.frozen (t := 3) hJ4.ibk; have m0 := (HL.out _ hJ4.low).2; obtain ⟨d0, d1, d2, d3, d4⟩ := HDC.out _ hJ4.low))
                obtain ⟨hJd, st5'⟩ := hJ5.stay num hN1 ⟨_, rfl⟩ (Below.refl w9.heap.size w9).drew
                have hpnl := hJd.len
                have hlowd := hJd.low.size
                have HD := Lib.hid (does_any w9.drew hJd.book (by omega) hlowd an cn hJd.nrow d (by omega) (by omega) (by omega) z4 z5)
                have hql := actQ_len (K := K) (M := M) hJd.book.sorted d
                unfold deedV DoesPost at HD
                generalize actQ K M pn d = Q at *
                have HJd := Lib.hid hJd
                have HSX := Lib.hid (fun (v' : Value) (W : World) (ht : Turned b m vb w9.drew v' W) => And.intro (OneBlk.cell (OneBlk.turned HJd.out.book ht (t := 43) HJd.out.fix.tbk (by decide) (by decide))) (And.intro (HL.out W (HJd.out.low.trans (Turned.below HJd.out.book ht hlowd))).2 (And.intro (OneBlk.cell (OneBlk.turned HJd.out.book ht (t := 3) HJd.out.ibk (by decide) (by decide))) (HDC.out W (HJd.out.low.trans (Turned.below HJd.out.book ht hlowd))))))
                have HNX := Lib.hid (fun (v' : Value) (W : World) (ht : Turned b m vb w9.drew v' W) => And.intro (HJd.out.nbk.turned HJd.out.book ht).cells (HJd.out.nbk.turned HJd.out.book ht).frozen)
                have hst := HSX.out vb w9.drew (Turned.refl ..)
                obtain ⟨x0, x1, x2⟩ := HJd.out.nbk.cells
                clear i0 if0 m0 d0 d1 d2 d3 d4
                refine wpIn_round_held (S := fun w' => w'.cell? ⟨tb, 0, none⟩ = some (.pointer (some ⟨b, 0, none⟩)) ∧ w'.cell? ⟨w.heap.size + 1, 0, none⟩ = some (.slice (some ⟨g, off, none⟩) len2 cap2) ∧ w'.cell? ⟨N + 1, 0, none⟩ = some (.int .i64 (k : Int)) ∧ w'.cell? ⟨g, off + k * 5, none⟩ = some (.int .i64 d.what) ∧ w'.cell? ⟨g, off + k * 5 + 1, none⟩ = some (.string d.key) ∧ w'.cell? ⟨g, off + k * 5 + 2, none⟩ = some (.string d.value) ∧ w'.cell? ⟨g, off + k * 5 + 3, none⟩ = some (.string d.old) ∧ w'.cell? ⟨g, off + k * 5 + 4, none⟩ = some (.int .i64 d.n)) (by kernel_rfl) (no_defer (by kernel_rfl)) ?_
                refine wpAnyH_take (i := 0) (v := .pointer (some ⟨b, 0, none⟩)) rfl (by kernel_rfl) (by kernel_rfl) (by kernel_rfl) (fun _ _ _ h => h) (Or.inl ⟨by rfl, ?_⟩) hst ?_
                · intro w' hSw
                  obtain ⟨l0, l1, l2, l3, l4, l5, l6, l7⟩ := hSw
                  go_simp
                try simp only [Act.put, List.setIfInBounds_toArray, List.set_cons_zero, List.set_cons_succ]
                refine wpAnyH_take (i := 2) (v := .slice (some ⟨g, off, none⟩) len2 cap2) rfl (by kernel_rfl) (by kernel_rfl) (by kernel_rfl) (fun _ _ _ h => h) (Or.inl ⟨by rfl, ?_⟩) hst ?_
                · intro w' hSw
                  obtain ⟨l0, l1, l2, l3, l4, l5, l6, l7⟩ := hSw
                  go_simp
                try simp only [Act.put, List.setIfInBounds_toArray, List.set_cons_zero, List.set_cons_succ]
                refine wpAnyH_take (i := 3) (v := .int .i64 (k : Int)) rfl (by kernel_rfl) (by kernel_rfl) (by kernel_rfl) (fun _ _ _ h => h) (Or.inl ⟨by rfl, ?_⟩) hst ?_
                · intro w' hSw
                  obtain ⟨l0, l1, l2, l3, l4, l5, l6, l7⟩ := hSw
                  go_simp
                try simp only [Act.put, List.setIfInBounds_toArray, List.set_cons_zero, List.set_cons_succ]
                refine wpAnyH_take (i := 4) (v := .pointer (some ⟨g, off + k * 5, none⟩)) rfl (by kernel_rfl) (by kernel_rfl) (by kernel_rfl) (fun _ _ _ h => h) (Or.inl ⟨by rfl, ?_⟩) hst ?_
                · intro w' hSw
                  obtain ⟨l0, l1, l2, l3, l4, l5, l6, l7⟩ := hSw
                  go_simp
                try simp only [Act.put, List.setIfInBounds_toArray, List.set_cons_zero, List.set_cons_succ]
                refine wpAnyH_take (i := 5) (v := .agg #[.int .i64 d.what, .string d.key, .string d.value, .string d.old, .int .i64 d.n]) rfl (by kernel_rfl) (by kernel_rfl) (by kernel_rfl) (fun _ _ _ h => h) (Or.inl ⟨by rfl, ?_⟩) hst ?_
                · intro w' hSw
                  obtain ⟨l0, l1, l2, l3, l4, l5, l6, l7⟩ := hSw
                  go_simp
                try simp only [Act.put, List.setIfInBounds_toArray, List.set_cons_zero, List.set_cons_succ]
                refine wpAnyH_ready (rs := [1]) (by kernel_rfl) (by simp) ?_
                refine AllReadyH.cons (o := _) rfl (fun Kx hKx => ?_) AllReadyH.nil
                go_simp
                refine hKx.out _ _ hst (fun _ => ?_)
                clear hKx Kx
                try simp only [Act.put, List.setIfInBounds_toArray, List.set_cons_zero, List.set_cons_succ]
                refine wpAnyH_ready (rs := [6]) (by kernel_rfl) (by simp) ?_
                refine AllReadyH.cons (o := _) rfl (fun Kx hKx => ?_) AllReadyH.nil
                go_simp
                go_at_call 38
                refine HD.out.mono ?_
                rintro e w10 ⟨a6, c6, v6, rfl, k6, p6, t6, l6⟩
                have hst6 := HSX.out _ _ t6
                obtain ⟨⟨y0, y1, y2⟩, yf⟩ := HNX.out _ _ t6
                try simp only
                refine hKx.out _ _ hst6 (fun _ => ?_)
                clear hKx Kx
                try simp only [Act.put, List.setIfInBounds_toArray, List.set_cons_zero, List.set_cons_succ]
                refine wpAnyH_take (i := 7) (v := .tuple #[.agg #[.slice a6 Q.length c6, .int .u64 K, .int .u64 M], .bool true]) rfl (by kernel_rfl) (by kernel_rfl) (by kernel_rfl) (fun _ _ _ h => h) (Or.inl ⟨by rfl, ?_⟩) hst6 ?_
                · intro w' hSw
                  go_simp
                try simp only [Act.put, List.setIfInBounds_toArray, List.set_cons_zero, List.set_cons_succ]
                refine wpAnyH_take (i := 8) (v := .agg #[.slice a6 Q.length c6, .int .u64 K, .int .u64 M]) rfl (by kernel_rfl) (by kernel_rfl) (by kernel_rfl) (fun _ _ _ h => h) (Or.inl ⟨by rfl, ?_⟩) hst6 ?_
                · intro w' hSw
                  go_simp
                try simp only [Act.put, List.setIfInBounds_toArray, List.set_cons_zero, List.set_cons_succ]
                refine wpAnyH_take (i := 9) (v := .bool true) rfl (by kernel_rfl) (by kernel_rfl) (by kernel_rfl) (fun _ _ _ h => h) (Or.inl ⟨by rfl, ?_⟩) hst6 ?_
                · intro w' hSw
                  go_simp
                try simp only [Act.put, List.setIfInBounds_toArray, List.set_cons_zero, List.set_cons_succ]
                obtain ⟨hJ10, st10⟩ := hJd.does num hN1 ⟨_, rfl⟩ k6 p6 t6 l6 hql
                refine wpAnyH_ready (rs := [10]) (by kernel_rfl) (by simp) ?_
                refine AllReadyH.cons (o := _) rfl (fun Kx hKx => ?_) AllReadyH.nil
                go_simp
                refine hKx.out _ _ ⟨OneBlk.cell (t := 43) hJ10.fix.tbk, (HL.out _ hJ10.low).2, OneBlk.cell (t := 3) hJ10.ibk, HDC.out _ hJ10.low⟩ (fun _ => ?_)
                clear hKx Kx
                try simp only [Act.put, List.setIfInBounds_toArray, List.set_cons_zero, List.set_cons_succ]
                refine wpAnyH_done (by kernel_rfl) ?_ _
                rw [show ((w10.setCell ⟨nb, 0, none⟩ (.slice a6 Q.length c6)).setCell ⟨nb, 1, none⟩ (.int .u64 K)).setCell ⟨nb, 2, none⟩ (.int .u64 M) = set3 w10 nb (.slice a6 Q.length c6) (.int .u64 K) (.int .u64 M) from rfl]
                generalize set3 w10 nb (.slice a6 Q.length c6) (.int .u64 K) (.int .u64 M) = W11 at hJ10 st10 ⊢
                have i9 := OneBlk.cell (t := 3) hJ10.ibk
                have if9 := OneBlk.frozen (t := 3) hJ10.ibk
                gi_wp2
                obtain ⟨hJX, st6⟩ := hJ10.count num hN1 ⟨_, rfl⟩ ((k : Int) + 1) (k + 1) (by omega)
                have hend := hJX.lop
                have hlt3 := (Array.getElem?_eq_some_iff.1 hend).1
                obtain ⟨hJ9, st9⟩ := hJX.loop num hN1 ⟨_, rfl⟩ (grownBy_putObj' _ (N + 4) (.loop (rec .ready none))) (World.putObj_heap_same (o := .loop (rec .ready none)) hlt3)
                have hendr := run_endRound (P := Try.prog) none hend
                rw [hup] at hendr
                exact ⟨_, _, hendr, rfl, ⟨_, _, _, _, _, hJ9⟩, st2.trans (st4.trans (st5.trans (st5'.trans (st10.trans (st6.trans st9)))))⟩
            · have hd : decide ((k : Int) < (len2 : Int)) = false := decide_eq_false (by omega)
              gi_wp2_with (gi_at_builtin; refine wpListIn_appF _ rfl _ _ rfl N1 sv (ps.take k) rfl (HAL.out _).srow ⟨W2.heap.size, 0, none⟩ 1 1 [(p.1, p.2)] rfl rfl (two_new _ _ _ _) hsl (by have := HJ2.out.sz; simp; omega) ?_; intro v' w8 q1 q2 q3 q4; obtain ⟨hJ4, st4⟩ := HJ2.out.append num hN1 ⟨_, rfl⟩ hp q1 q2 q3; obtain ⟨sa, sc, rfl, _⟩ := prow_form2 q1 (nn := k + 1) (by simp; omega); obtain ⟨ks, kf⟩ := seen_app HJ2.out (by omega) q2; have i0 := OneBlk.cell (t := 3) hJ4.ibk; have if0 := OneBlk.frozen (t := 3) hJ4.ibk; have m0 := (HL.out _ hJ4.low).2)
              refine ⟨trivial, ?_⟩
              gi_wp2
              obtain ⟨hJX, st6⟩ := hJ4.count num hN1 ⟨_, rfl⟩ ((k : Int) + 1) (k + 1) (by omega)
              have hend := hJX.lop
              have hlt3 := (Array.getElem?_eq_some_iff.1 hend).1
              obtain ⟨hJ9, st9⟩ := hJX.loop num hN1 ⟨_, rfl⟩ (grownBy_putObj' _ (N + 4) (.loop (rec .ready none))) (World.putObj_heap_same (o := .loop (rec .ready none)) hlt3)
              have hendr := run_endRound (P := Try.prog) none hend
              rw [hup] at hendr
              exact ⟨_, _, hendr, rfl, ⟨_, _, _, _, _, hJ9.later⟩, st2.trans (st4.trans (st6.trans st9))⟩
          case post =>
            rintro e W' ⟨⟨v0, rfl⟩, N1, hN1, vb, pn, an, cn, sv, hJ⟩
            rw [hszS] at hN1
            have hl := hJ.lop
            have hrun : (Instr.endLoop (N + 4)).run Try.prog W' = .ok none (W'.putObj (N + 4) (.loop (rec .exhausted none))) := by
              rw [← hrec] at hl ⊢
              exact run_endLoop hl (by simp [recOf])
            refine ⟨none, _, hrun, ?_⟩
            obtain ⟨hJ2, _⟩ := hJ.loop num hN1 ⟨_, rfl⟩ (grownBy_putObj' W' (N + 4) (.loop (rec .exhausted none))) (World.putObj_heap_same (o := .loop (rec .exhausted none)) (Array.getElem?_eq_some_iff.1 hl).1)
            clear hrun hl hJ s0 s1 s2 sD sL hX HJ0 HBKS HC HTB HRB HPR HBK HNB HOB HBW HCK hbS hbW0
            generalize W'.putObj (N + 4) (.loop (rec .exhausted none)) = W4 at hJ2 ⊢
            have hK := hJ2.done num
            have hvb : ∀ g, vb.ownBlock = some g → (g < wr.heap.size ∨ N ≤ g) ∧ g < W4.heap.size := fun g hg => ⟨(hJ2.own g hg).imp id (fun h => by omega), (hJ2.book.row.lt g hg).2⟩
            have hE : N + 5 ≤ W4.heap.size := by have := hJ2.sz; omega
            have hpn := hJ2.len
            have hcE : wr.heap.size ≤ W4.heap.size := by have := num.hc; omega
            clear hJ2
            generalize W4.heap.size = E at hK hvb hE hcE
            have i0 := OneBlk.cell (t := 3) hK.ibk
            have if0 := OneBlk.frozen (t := 3) hK.ibk
            have m0 := (HL.out _ hK.low).2
            go_wp2
            have hK1 := hK.count num ((len2 : Int) - 1)
            clear hK i0 if0 m0
            generalize W4.setCell ⟨N + 1, 0, none⟩ (.int .i64 ((len2 : Int) - 1)) = W5 at hK1 ⊢
            go_loopw [17] (fun ok W => ∃ (j : Nat) (vd : Value) (po : PS) (ao : Option Addr) (co : Nat), j ≤ len2 ∧ ok = .bool true ∧ CopyK w1 wr.heap.size c mc K M ps tb b m nb ob N ra rc E vb pn an cn sv W vd po ao co ((j : Int) - 1) ∧ po.length ≤ ps.length + (len2 - j)) (fun _ W => (intOf ((W.cell? ⟨N + 1, 0, none⟩).getD undef) + 1).toNat)
            case atStart => exact ⟨len2, _, _, _, _, Nat.le_refl _, rfl, hK1, by omega⟩
            case round =>
              clear hK1
              obtain ⟨j, vd, po, ao, co, hj, rfl, hK, hpo⟩ := hrel
              have i0 := OneBlk.cell (t := 3) hK.ibk
              have if0 := OneBlk.frozen (t := 3) hK.ibk
              have m0 := (HL.out _ hK.low).2
              cases j with
              | zero =>
                have hji : (((0 : Nat) : Int) - 1) = -1 := by omega
                rw [hji] at i0 hK
                obtain ⟨sa, sc, rfl, _⟩ := prow_form2 hK.srow rfl
                have hsm := hK.book.small
                have hps := HPS.out
                have s0 := OneBlk.cell (t := 47) hK.seen
                obtain ⟨b0, b1, b2⟩ := hK.mbk.cells
                have hi1 := (prow_in hK.srow hps).1
                have hi2 := (prow_in hK.row hps).1
                have HLB := Lib.hid (fun W (hb : Below wr.heap.size wr W) => looks_any W (hK.stay hb).book (by omega) an cn (hK.stay hb).nrow ⟨#[]⟩ (Nat.zero_le _))
                have HLC := Lib.hid (fun W (hb : Below wr.heap.size wr W) => looks_any W (hK.stay hb).cbk (by omega) ao co (hK.stay hb).orow ⟨#[]⟩ (Nat.zero_le _))
                have HKX := Lib.hid (fun W (hb : Below wr.heap.size wr W) => And.intro (OneBlk.cell (t := 43) (hK.stay hb).tbk) (And.intro (hK.stay hb).nbk.cells (hK.stay hb).obk.cells))
                have HKw := Lib.hid hK
                clear hK
                go_wp2_with (first
                  | (go_at_call 32; refine (same_true hi1 hi2 rfl (by omega) (by omega)).mono ?_; rintro e w8 ⟨rfl, n8⟩; obtain ⟨t0, ⟨n0, n1, n2⟩, o0, o1, o2⟩ := HKX.out _ n8)
                  | (go_at_call 39; refine (HLB.out _ n8).mono ?_; clear HLB; rintro e w9 ⟨rfl, n9⟩; have n89 := n8.trans (n9.mono n8.size); obtain ⟨t0, ⟨n0, n1, n2⟩, o0, o1, o2⟩ := HKX.out _ n89)
                  | (go_at_call 39; refine (HLC.out _ n89).mono ?_; clear HLC; rintro e w10 ⟨rfl, n10⟩; have n810 := n89.trans (n10.mono n89.size))
                  | (go_at_call 27; refine (awake_any _).mono ?_; rintro e w11 ⟨rfl, n11⟩; have n811 := n810.trans (n11.mono n810.size)))
                have hKf := HKw.out.stay n811
                have hg2 := grownBy_putObj' w11 (N + 3) (.deferred none)
                have hNw : w1.heap.size ≤ N + 3 := by have := num.hc; have := num.hW; omega
                refine ⟨by simp, .inl ⟨_, _, rfl, run_takeDeferred hKf.dfr, ?_⟩⟩
                exact ⟨.bool true, by simp [results, Try.f12, go_sem], rfl, hB1.trans ((hKf.low.grown hg2 hKf.low.size (fun j e => by cases e; exact hNw)).mono hB1.size)⟩
              | succ j =>
                have hji : (((j + 1 : Nat) : Int) - 1) = (j : Int) := by omega
                rw [hji] at i0 hK
                obtain ⟨g, off, d, rfl, hd, d0, d1, d2, d3, d4, z1, z2, z3, z4, z5⟩ := deed_cells_at (HDT.out _ (Below.refl _ _)) (show j < len2 by omega)
                have HDC := Lib.hid (fun w' (hb : Below w1.heap.size w1 w') => And.intro (cell_below hb d0) (And.intro (cell_below hb d1) (And.intro (cell_below hb d2) (And.intro (cell_below hb d3) (cell_below hb d4)))))
                clear d0 d1 d2 d3 d4 hd
                obtain ⟨d0, d1, d2, d3, d4⟩ := HDC.out _ hK.low
                have HF := Lib.hid (fits_any d wr z1 z2 z3)
                have HKw := Lib.hid hK
                have i00 := Lib.hid i0
                clear hK
                cases hfit : fitsB d with
                | false =>
                  rw [hfit] at HF
                  go_wp2_with (go_at_call 29; refine HF.out.mono ?_; rintro e w9 ⟨rfl, hn9⟩; have hK9 := HKw.out.stay hn9; have i9 := OneBlk.cell (t := 3) hK9.ibk; have if9 := OneBlk.frozen (t := 3) hK9.ibk)
                  have hKX := hK9.count num ((j : Int) - 1)
                  have iX := OneBlk.cell (t := 3) hKX.ibk
                  go_roundw
                  case rel => exact ⟨j, vd, po, ao, co, by omega, rfl, hKX, by omega⟩
                  case measure =>
                    rw [iX, i00.out]
                    simp [intOf] <;> omega
                | true =>
                  rw [hfit] at HF
                  have hfx := hfit
                  simp only [fitsB, Bool.and_eq_true, decide_eq_true_eq] at hfx
                  obtain ⟨f1, f2, f3⟩ := hfx
                  go_wp2_with (go_at_call 29; refine HF.out.mono ?_; rintro e w9 ⟨rfl, hn9⟩)
                  have hK9 := HKw.out.stay hn9
                  have HD := Lib.hid (fun W (hb : Below w9.heap.size w9 W) => does_any W (hK9.stay hb).cbk (by omega) (by have := (hK9.stay hb).sz; omega) ao co (hK9.stay hb).orow d (by omega) (by omega) (by omega) z4 z5)
                  have hql := actQ_len (K := K) (M := M) hK9.cbk.sorted d
                  unfold deedV DoesPost at HD
                  generalize actQ K M po d = Q at *
                  have HTT := Lib.hid (fun (X : World) (v' : Value) (W : World) (hb : Below w9.heap.size w9 X) (ht : Turned c mc vd X v' W) => Turned.trans (Turned.of_below hb) ht)
                  have HDS2 := Lib.hid (fun (W6 : World) (vd' : Value) (a6 : Option Addr) (c6 : Nat) (k6 : BookAt W6 _ c mc vd' K M Q) (p6 : PRow W6 0 (.slice a6 Q.length c6) Q) (t6 : Turned c mc vd w9 vd' W6) => hK9.does num hE hvb k6 p6 t6)
                  have HOX := Lib.hid (fun (v' : Value) (W : World) (ht : Turned c mc vd w9 v' W) => And.intro (hK9.obk.turned hK9.cbk ht).cells (hK9.obk.turned hK9.cbk ht).frozen)
                  have i9 := OneBlk.cell (t := 3) hK9.ibk
                  have m9 := (HL.out _ hK9.low).2
                  obtain ⟨d0, d1, d2, d3, d4⟩ := HDC.out _ hK9.low
                  obtain ⟨x0, x1, x2⟩ := hK9.obk.cells
                  clear i0 if0 m0 hK9
                  refine wp_region_noPanic ?_
                  go_region_with (go_at_call 38
                                  refine (HD.out _ (by first | exact Below.refl _ _ | exact (Below.refl _ _).drew)).mono ?_
                                  rintro e w10 ⟨a6, c6, v6, rfl, k6, p6, t6, _⟩
                                  have t7 := HTT.out _ _ _ (by first | exact Below.refl _ _ | exact (Below.refl _ _).drew) t6
                                  obtain ⟨⟨y0, y1, y2⟩, yf⟩ := HOX.out _ _ t7)
                  all_goals
                    refine NoPanic.normal ?_
                    have hK10 := HDS2.out _ _ _ _ k6 p6 t7
                    have i8 := OneBlk.cell (t := 3) hK10.ibk
                    have if8 := OneBlk.frozen (t := 3) hK10.ibk
                    unfold set3 at i8 if8
                    go_wp2
                    have hKX := hK10.count num ((j : Int) - 1)
                    have iX := OneBlk.cell (t := 3) hKX.ibk
                    go_roundw
                    case rel => exact ⟨j, v6, Q, a6, c6, by omega, rfl, hKX, by omega⟩
                    case measure =>
                      unfold set3 at iX
                      rw [iX, i00.out]
                      simp [intOf] <;> omega

end Go.Proofs.Ytgfhaldfjnepmaa
