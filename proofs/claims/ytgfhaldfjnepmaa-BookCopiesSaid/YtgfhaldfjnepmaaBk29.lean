/- Walk: the law BookTells returns true, whatever the limits, the operations, the key and the number. -/
import Derived.Test.YtgfhaldfjnepmaaBkR10
import Derived.Test.YtgfhaldfjnepmaaAp5
namespace Go.Proofs.Ytgfhaldfjnepmaa
open Go Go.RowKit Go.Shelf Go.Proofs
attribute [local go_sem] Oper.semAt_some

theorem apart_two {W : World} {B S : Nat} {x y : Value} {L1 L2 : PS} (hx : PRow W B x L1) (hy : PRow W B y L2) (hd : ∀ g, x.ownBlock = some g → y.ownBlock ≠ some g) (h0 : W.cell? ⟨S, 0, none⟩ = some x) (h1 : W.cell? ⟨S, 1, none⟩ = some y) (hS : S < W.heap.size) (hB : B ≤ W.heap.size) (l1 : L1.length ≤ 100000) (l2 : L2.length ≤ 100000) (c : Nat) :
    Calls Try.prog 41 #[.slice (some ⟨S, 0, none⟩) 2 c] W fun e w' => e = .returned (.bool true) ∧ Below B W w' := by
  refine apartpairs_all W B S 2 c (fun j => if j = 0 then x else y) (fun j => if j = 0 then L1.length else L2.length) (by omega) (by omega) (fun k hk => ?_) hS (fun i j hi hj e g h => ?_) (fun k _ => ?_) hB (fun j hj => ?_)
  · obtain rfl | rfl : k = 0 ∨ k = 1 := by omega
    · exact h0
    · exact h1
  · obtain ⟨rfl, rfl⟩ | ⟨rfl, rfl⟩ : (i = 0 ∧ j = 1) ∨ (i = 1 ∧ j = 0) := by omega
    · exact hd g h
    · exact fun h2 => hd g h2 h
  · by_cases e : k = 0
    · simp only [e, if_true]; exact l1
    · simp only [e, if_false]; exact l2
  · by_cases e : j = 0
    · subst e; exact ⟨L1, rfl, hx⟩
    · simp only [e, if_false]; exact ⟨L2, rfl, hy⟩

theorem two_lists (W : World) (x y : Value) : (W.alloc (.cells #[x, y] 47)).cell? ⟨W.heap.size, 0, none⟩ = some x ∧ (W.alloc (.cells #[x, y] 47)).cell? ⟨W.heap.size, 1, none⟩ = some y := by
  have := World.alloc_heap_new W (.cells #[x, y] 47)
  constructor <;> (unfold World.cell?; simp only [this]; rfl)

/-- What stays while an operation on both goes on: some turn of the book. -/
def TurnedTo (b m : Nat) (v : Value) (w w' : World) : Prop := ∃ v', Turned b m v w v' w'
theorem TurnedTo.refl (b m : Nat) (v : Value) (w : World) : TurnedTo b m v w w := ⟨v, Turned.refl ..⟩
theorem TurnedTo.drew {b m : Nat} {v : Value} {w w' : World} (h : TurnedTo b m v w w') : TurnedTo b m v w w'.drew := by
  obtain ⟨v', h⟩ := h
  exact ⟨v', h.heap rfl rfl rfl rfl⟩
theorem TurnedTo.alloc {b m : Nat} {v : Value} {w w' : World} (h : TurnedTo b m v w w') (o : Obj) : TurnedTo b m v w (w'.alloc o) := by
  obtain ⟨v', h⟩ := h
  exact ⟨v', Turned.trans h (Turned.of_below ((Below.refl _ _).alloc (Nat.le_refl _) _))⟩
theorem TurnedTo.set {b m : Nat} {v : Value} {w w' : World} (h : TurnedTo b m v w w') {k : Nat} (hk : w.heap.size ≤ k) (x y z : Value) : TurnedTo b m v w (((w'.setCell ⟨k, 0, none⟩ x).setCell ⟨k, 1, none⟩ y).setCell ⟨k, 2, none⟩ z) := by
  obtain ⟨v', h⟩ := h
  exact ⟨v', Turned.set3 h hk x y z⟩

set_option maxRecDepth 100000 in
set_option maxHeartbeats 16000000 in
theorem law_BookTells (K M : Nat) (hK : K < 2 ^ 64) (hM : M < 2 ^ 64) (a : Option Addr) (len cap : Nat) (ds : List Deed) (s : ByteArray) (hsz : s.size ≤ 140737488351232) (ca : Int) (za : -9223372036854775808 ≤ ca ∧ ca ≤ 9223372036854775807) (w : World) (hds : IsDeeds w a len ds) :
    Calls Try.prog 11 #[.agg #[.int .u64 K, .int .u64 M], .slice a len cap, .string s, .int .i64 ca] w fun e w' => e = .returned (.bool true) ∧ Below w.heap.size w w' := by
  obtain ⟨w1, hw1⟩ : ∃ w1, w1 = w.alloc (.cells #[.int .u64 K, .int .u64 M] 41) := ⟨_, rfl⟩
  have hB1 : Below w.heap.size w w1 := by rw [hw1]; exact (Below.refl w.heap.size w).alloc (Nat.le_refl _) _
  have hl0 : w1.heap[w.heap.size]? = some (.cells #[.int .u64 K, .int .u64 M] 41) := by rw [hw1]; exact World.alloc_heap_new _ _
  have hs1 : w1.heap.size = w.heap.size + 1 := by rw [hw1]; simp
  have HDS := Lib.hid (fun w' (hb : Below w1.heap.size w1 w') => (hds.below hB1).below hb)
  have HL := Lib.hid (fun w' (hb : Below w1.heap.size w1 w') => (show w'.cell? ⟨w.heap.size, 0, none⟩ = some (.int .u64 K) ∧ w'.cell? ⟨w.heap.size, 1, none⟩ = some (.int .u64 M) by
    have e := (hb.block w.heap.size (by omega)).trans hl0
    constructor <;> simp [World.cell?, e]))
  have hlen := hds.2.1
  clear hds hl0
  by_cases hbig : 80 < len ∨ 100 < s.size
  · by_cases h80 : 80 < len
    · have i1 : (80 : Int) < (len : Int) := by omega
      go_enter Try.func11, Try.ntmps11
      go_wp2_with (go_at_call 27; refine (awake_any _).mono ?_; rintro e w3 ⟨rfl, hn3⟩; rw [← hw1] at hn3)
      go_ret
      exact ⟨rfl, hB1.trans (hn3.mono hB1.size)⟩
    · have i1 : decide ((80 : Int) < (len : Int)) = false := decide_eq_false (by omega)
      have i2 : (100 : Int) < (s.size : Int) := by omega
      go_enter Try.func11, Try.ntmps11
      go_wp2_with (go_at_call 27; refine (awake_any _).mono ?_; rintro e w3 ⟨rfl, hn3⟩; rw [← hw1] at hn3)
      go_ret
      exact ⟨rfl, hB1.trans (hn3.mono hB1.size)⟩
  · have i1 : decide ((80 : Int) < (len : Int)) = false := decide_eq_false (by omega)
    have i2 : ¬ (100 : Int) < (s.size : Int) := by omega
    have hs100 : s.size ≤ 100 := by omega
    have hl80 : len ≤ 80 := by omega
    obtain ⟨c1, c2⟩ := HL.out w1 (Below.refl _ _)
    rw [hw1] at c1 c2
    clear hbig
    go_enter Try.func11, Try.ntmps11
    go_wp2_with (go_at_call 28; refine (new_any K M _ hK hM).mono ?_; rintro e w4 ⟨b, m, rfl, hbk, hn4⟩; rw [← hw1] at hn4 hbk; clear c1 c2; obtain ⟨c1, c2⟩ := HL.out _ hn4)
    clear hw1 c1 c2 i1 i2
    obtain ⟨w5, hw5⟩ : ∃ w5, w5 = w4.alloc (.cells #[.slice none 0 0, .int .u64 K, .int .u64 M] 62) := ⟨_, rfl⟩
    rw [← hw5]
    have hn45 : Below w4.heap.size w4 w5 := by rw [hw5]; exact (Below.refl _ _).alloc (Nat.le_refl _) _
    have hrb : RefBlk w5 w4.heap.size (.slice none (List.length ([] : PS)) 0) (.int .u64 K) (.int .u64 M) := by rw [hw5]; exact RefBlk.new _ _ _ _
    have hb5 : Below w1.heap.size w1 w5 := hn4.trans (hn45.mono hn4.size)
    have hsz5 := hb5.size
    have HBK := Lib.hid (hbk.below hn45)
    have hp0 : PRow w5 0 (.slice none (List.length ([] : PS)) 0) [] := prow_nil _ _
    clear hw5 hbk hn45
    have hmb : w1.heap.size ≤ w4.heap.size := hn4.size
    clear hn4
    generalize w4.heap.size = mb at *
    go_loopw [11, 12, 13] (fun i _ _ wr => ∃ (k : Nat) (v : Value) (ps : PS) (ra : Option Addr) (rc : Nat), k ≤ len ∧ i = .int .i64 k ∧ Hid (BookAt wr w1.heap.size b m v K M ps) ∧ ps.length ≤ k ∧ RefBlk wr mb (.slice ra ps.length rc) (.int .u64 K) (.int .u64 M) ∧ PRow wr 0 (.slice ra ps.length rc) ps ∧ Below w1.heap.size w1 wr ∧ w1.heap.size ≤ wr.heap.size) (fun i _ _ _ => 80 - (intOf i).toNat)
    case atStart => exact ⟨0, _, [], none, 0, Nat.zero_le _, rfl, HBK, Nat.le_refl _, hrb, hp0, hb5, hsz5⟩
    case round =>
      clear HBK hrb hp0 hb5 hsz5
      obtain ⟨k, v, ps, ra, rc, hk, rfl, HB, hpl, hrb, hpr, hBr, hszr⟩ := hrel
      by_cases hk1 : k < len
      · obtain ⟨g, off, d, rfl, hd, d0, d1, d2, d3, d4, z1, z2, z3, z4, z5⟩ := deed_cells_at (HDS.out _ (Below.refl _ _)) hk1
        have HDC := Lib.hid (fun w' (hb : Below w1.heap.size w1 w') => And.intro (cell_below hb d0) (And.intro (cell_below hb d1) (And.intro (cell_below hb d2) (And.intro (cell_below hb d3) (cell_below hb d4)))))
        clear d0 d1 d2 d3 d4
        obtain ⟨d0, d1, d2, d3, d4⟩ := HDC.out _ hBr
        have HF := Lib.hid (fits_any d wr z1 z2 z3)
        clear hd
        cases hfit : fitsB d with
        | false =>
          rw [hfit] at HF
          clear hrb hpr
          go_wp2_with (first
            | (go_at_call 29; refine HF.out.mono ?_; rintro e w5 ⟨rfl, hn5⟩)
            | (go_at_call 27; refine (awake_any _).mono ?_; rintro e w6 ⟨rfl, hn6⟩))
          go_ret
          have hb5 := hBr.trans (hn5.mono hBr.size)
          exact ⟨rfl, hB1.trans ((hb5.trans (hn6.mono hb5.size)).mono hB1.size)⟩
        | true =>
          rw [hfit] at HF
          have hfx := hfit
          simp only [fitsB, Bool.and_eq_true, decide_eq_true_eq] at hfx
          obtain ⟨f1, f2, f3⟩ := hfx
          have HRB := Lib.hid hrb
          have HPR := Lib.hid hpr
          clear hrb hpr
          go_wp2_with (first
            | (go_at_call 29; refine HF.out.mono ?_; rintro e w5 ⟨rfl, hn5⟩))
          have HB5 := Lib.hid (fun W (hb : Below w5.heap.size w5 W) => (HB.out.below hn5).below hb)
          have hb5 := hBr.trans (hn5.mono hBr.size)
          have hsz5 := hn5.size
          have hrb5 := HRB.out.below (HRB.out.lt) hn5
          have hlow : ∀ W, TurnedTo b m v w5 W → Below w1.heap.size w1 W := fun W ⟨v', ht⟩ => hb5.trans (Turned.below (HB5.out w5 (Below.refl _ _)) ht (by omega))
          have HS := Lib.hid (fun (W : World) (ht : TurnedTo b m v w5 W) => And.intro (by
            obtain ⟨v', ht'⟩ := ht
            exact (hrb5.turned (HB5.out w5 (Below.refl _ _)) ht').cells) (And.intro (HDC.out W (hlow W ht)) ht))
          have hst := HS.out w5 (TurnedTo.refl ..)
          have HD := Lib.hid (fun W (hb : Below w5.heap.size w5 W) => does_any W (HB5.out W hb) (by omega) (by have := hb.size; omega) ra rc (prow_below hb (prow_below hn5 HPR.out)) d (by omega) (by omega) (by omega) z4 z5)
          unfold deedV DoesPost at HD
          have HTT := Lib.hid (fun (X : World) (v' : Value) (W : World) (hb : Below w5.heap.size w5 X) (ht : Turned b m v X v' W) => Turned.trans (Turned.of_below hb) ht)
          have HZ := Lib.hid (fun (v' : Value) (W : World) (ht : Turned b m v (w5.alloc (.cells #[.slice none 0 0, .int .u64 0, .int .u64 0] 62)).drew v' W) => RefBlk.turned (HB5.out _ (nx_alloc _ (Below.refl _ _)).drew) ht ((RefBlk.new w5 (.slice none 0 0) (.int .u64 0) (.int .u64 0)).heap rfl))
          clear hlow hrb5 d0 d1 d2 d3 d4
          go_region_held3 (fun w' => (w'.cell? ⟨mb, 0, none⟩ = some (.slice ra ps.length rc) ∧ w'.cell? ⟨mb, 1, none⟩ = some (.int .u64 K) ∧ w'.cell? ⟨mb, 2, none⟩ = some (.int .u64 M)) ∧ (w'.cell? ⟨g, off + k * 5, none⟩ = some (.int .i64 d.what) ∧ w'.cell? ⟨g, off + k * 5 + 1, none⟩ = some (.string d.key) ∧ w'.cell? ⟨g, off + k * 5 + 2, none⟩ = some (.string d.value) ∧ w'.cell? ⟨g, off + k * 5 + 3, none⟩ = some (.string d.old) ∧ w'.cell? ⟨g, off + k * 5 + 4, none⟩ = some (.int .i64 d.n)) ∧ TurnedTo b m v w5 w')
            (first | assumption | (refine HS.out _ ?_; first | assumption | exact TurnedTo.refl _ _ _ _ | exact (TurnedTo.refl _ _ _ _).drew | (go_split_ands; first | assumption | (exact TurnedTo.alloc (by assumption) _) | (exact TurnedTo.set (by assumption) (by first | omega | (simp; omega)) _ _ _))))
            (first
              | (go_at_call 38
                 refine (HD.out _ (by first | exact Below.refl _ _ | exact (Below.refl _ _).drew | exact nx_alloc _ (Below.refl _ _) | exact nx_alloc _ (Below.refl _ _).drew | exact (nx_alloc _ (Below.refl _ _)).drew | exact (nx_alloc _ (Below.refl _ _).drew).drew)).mono ?_
                 rintro e w6 ⟨a6, c6, v6, rfl, k6, p6, t6, _⟩
                 have t7 := HTT.out _ _ _ (by first | exact Below.refl _ _ | exact (Below.refl _ _).drew | exact nx_alloc _ (Below.refl _ _) | exact nx_alloc _ (Below.refl _ _).drew | exact (nx_alloc _ (Below.refl _ _)).drew | exact (nx_alloc _ (Below.refl _ _).drew).drew) t6
                 have t8 : TurnedTo b m v w5 w6 := ⟨v6, t7⟩
                 try (have hz := HZ.out _ _ t6; obtain ⟨⟨y0, y1, y2⟩, yf⟩ := And.intro hz.cells hz.frozen))
              | fail)
          · have HQL := Lib.hid (actQ_len (K := K) (M := M) HB.out.sorted d)
            generalize actQ K M ps d = Q at *
            obtain ⟨Wn, hWn⟩ : ∃ Wn, Wn = w6.alloc (.cells #[.slice a6 Q.length c6, .int .u64 K, .int .u64 M] 62) := ⟨_, rfl⟩
            rw [← hWn]
            have hbn : Below w6.heap.size w6 Wn := by rw [hWn]; exact (Below.refl _ _).alloc (Nat.le_refl _) _
            have kn : BookAt Wn w1.heap.size b m v6 K M Q := k6.below hbn
            have pn : PRow Wn 0 (.slice a6 Q.length c6) Q := prow_below hbn p6
            have tn : Turned b m v w5 v6 Wn := Turned.trans t7 (Turned.of_below hbn)
            have rn : RefBlk Wn w6.heap.size (.slice a6 Q.length c6) (.int .u64 K) (.int .u64 M) := by rw [hWn]; exact RefBlk.new _ _ _ _
            have mn : RefBlk Wn mb (.slice ra ps.length rc) (.int .u64 K) (.int .u64 M) := (HRB.out.below (HRB.out.lt) hn5).turned (HB5.out w5 (Below.refl _ _)) tn
            have tb : Below w1.heap.size w1 Wn := hb5.trans (Turned.below (HB5.out w5 (Below.refl _ _)) tn (by omega))
            have ql := HQL.out
            obtain ⟨⟨n0, n1, n2⟩, ⟨m0, m1, m2⟩, mf⟩ := And.intro rn.cells (And.intro mn.cells mn.frozen)
            have k9 := BookAt.set3 (x' := .slice a6 Q.length c6) (y' := .int .u64 K) (z' := .int .u64 M) kn mn
            have p9 := prow_set3 (x' := .slice a6 Q.length c6) (y' := .int .u64 K) (z' := .int .u64 M) pn mn
            have m9 := set3_same (x' := .slice a6 Q.length c6) (y' := .int .u64 K) (z' := .int .u64 M) mn
            have b9 := set3_below tb hmb (.slice a6 Q.length c6) (.int .u64 K) (.int .u64 M)
            clear hWn kn pn tn rn mn tb t6 t7 t8 k6 p6 hst
            go_wp2
            rw [show ((Wn.setCell ⟨mb, 0, none⟩ (.slice a6 Q.length c6)).setCell ⟨mb, 1, none⟩ (.int .u64 K)).setCell ⟨mb, 2, none⟩ (.int .u64 M) = set3 Wn mb (.slice a6 Q.length c6) (.int .u64 K) (.int .u64 M) from rfl]
            clear n0 n1 n2 m0 m1 m2 mf
            generalize set3 Wn mb (.slice a6 Q.length c6) (.int .u64 K) (.int .u64 M) = W9 at *
            obtain ⟨⟨e0, e1, e2⟩, _⟩ := And.intro m9.cells m9.frozen
            obtain ⟨d0, d1, d2, d3, d4⟩ := HDC.out _ b9
            have HLK := Lib.hid (fun (t : ByteArray) (ht : t.size ≤ 1000) W (hb : Below W9.heap.size W9 W) => looks_any W (k9.below hb) (by omega) a6 c6 (prow_below hb p9) t ht)
            have x0 := fun dd os => cell_regrown e0 dd os
            have x1 := fun dd os => cell_regrown e1 dd os
            have x2 := fun dd os => cell_regrown e2 dd os
            have x3 := fun dd os => cell_regrown d1 dd os
            have HK9 := Lib.hid k9
            have HP9 := Lib.hid p9
            have HM9 := Lib.hid m9
            have HB9 := Lib.hid b9
            clear k9 p9 m9 b9 d0 d2 d3 d4
            refine wp_region_quiet_below (by kernel_rfl) (by kernel_rfl) ?_
            repeat (go_big_quiet_step (first | (go_at_call 39; exact Calls.regrown_of (HLK.out _ (by omega) _ (below_regrown _ _ _)))))
            refine wpQuiet_nil ?_
            intro _ hw'
            obtain ⟨⟨dq, osq⟩, rfl⟩ := hw'
            have hg8 := below_regrown W9 dq osq
            clear x0 x1 x2 x3 e0 e1 e2 d1
            generalize Sort.grow (redrawn W9 dq) osq = w8 at hg8 ⊢
            have HK8 := Lib.hid (HK9.out.below hg8)
            have m8 := HM9.out.below HM9.out.lt hg8
            have p8 := prow_below hg8 HP9.out
            have b8 := HB9.out.trans (hg8.mono HB9.out.size)
            go_wp2
            go_roundw
            case rel => exact ⟨k + 1, v6, Q, a6, c6, by omega, by go_num, HK8, by omega, m8, p8, b8, b8.size⟩
            case measure => simp [intOf]; omega
          · have HQL := Lib.hid (actQ_len (K := K) (M := M) HB.out.sorted d)
            generalize actQ K M ps d = Q at *
            obtain ⟨Wn, hWn⟩ : ∃ Wn, Wn = set3 w6 w5.heap.size (.slice a6 Q.length c6) (.int .u64 K) (.int .u64 M) := ⟨_, rfl⟩
            unfold set3 at hWn
            rw [← hWn]
            have kn : BookAt Wn w1.heap.size b m v6 K M Q := by rw [hWn]; exact BookAt.set3 k6 hz
            have pn : PRow Wn 0 (.slice a6 Q.length c6) Q := by rw [hWn]; exact prow_set3 p6 hz
            have tn : Turned b m v w5 v6 Wn := by rw [hWn]; exact Turned.set3 t7 (Nat.le_refl _) _ _ _
            have rn : RefBlk Wn w5.heap.size (.slice a6 Q.length c6) (.int .u64 K) (.int .u64 M) := by rw [hWn]; exact set3_same hz
            have mn : RefBlk Wn mb (.slice ra ps.length rc) (.int .u64 K) (.int .u64 M) := (HRB.out.below (HRB.out.lt) hn5).turned (HB5.out w5 (Below.refl _ _)) tn
            have tb : Below w1.heap.size w1 Wn := hb5.trans (Turned.below (HB5.out w5 (Below.refl _ _)) tn (by omega))
            have ql := HQL.out
            obtain ⟨⟨n0, n1, n2⟩, ⟨m0, m1, m2⟩, mf⟩ := And.intro rn.cells (And.intro mn.cells mn.frozen)
            have k9 := BookAt.set3 (x' := .slice a6 Q.length c6) (y' := .int .u64 K) (z' := .int .u64 M) kn mn
            have p9 := prow_set3 (x' := .slice a6 Q.length c6) (y' := .int .u64 K) (z' := .int .u64 M) pn mn
            have m9 := set3_same (x' := .slice a6 Q.length c6) (y' := .int .u64 K) (z' := .int .u64 M) mn
            have b9 := set3_below tb hmb (.slice a6 Q.length c6) (.int .u64 K) (.int .u64 M)
            clear hWn kn pn tn rn mn tb t6 t7 t8 k6 p6 hst
            go_wp2
            rw [show ((Wn.setCell ⟨mb, 0, none⟩ (.slice a6 Q.length c6)).setCell ⟨mb, 1, none⟩ (.int .u64 K)).setCell ⟨mb, 2, none⟩ (.int .u64 M) = set3 Wn mb (.slice a6 Q.length c6) (.int .u64 K) (.int .u64 M) from rfl]
            clear n0 n1 n2 m0 m1 m2 mf
            generalize set3 Wn mb (.slice a6 Q.length c6) (.int .u64 K) (.int .u64 M) = W9 at *
            obtain ⟨⟨e0, e1, e2⟩, _⟩ := And.intro m9.cells m9.frozen
            obtain ⟨d0, d1, d2, d3, d4⟩ := HDC.out _ b9
            have HLK := Lib.hid (fun (t : ByteArray) (ht : t.size ≤ 1000) W (hb : Below W9.heap.size W9 W) => looks_any W (k9.below hb) (by omega) a6 c6 (prow_below hb p9) t ht)
            have x0 := fun dd os => cell_regrown e0 dd os
            have x1 := fun dd os => cell_regrown e1 dd os
            have x2 := fun dd os => cell_regrown e2 dd os
            have x3 := fun dd os => cell_regrown d1 dd os
            have HK9 := Lib.hid k9
            have HP9 := Lib.hid p9
            have HM9 := Lib.hid m9
            have HB9 := Lib.hid b9
            clear k9 p9 m9 b9 d0 d2 d3 d4
            refine wp_region_quiet_below (by kernel_rfl) (by kernel_rfl) ?_
            repeat (go_big_quiet_step (first | (go_at_call 39; exact Calls.regrown_of (HLK.out _ (by omega) _ (below_regrown _ _ _)))))
            refine wpQuiet_nil ?_
            intro _ hw'
            obtain ⟨⟨dq, osq⟩, rfl⟩ := hw'
            have hg8 := below_regrown W9 dq osq
            clear x0 x1 x2 x3 e0 e1 e2 d1
            generalize Sort.grow (redrawn W9 dq) osq = w8 at hg8 ⊢
            have HK8 := Lib.hid (HK9.out.below hg8)
            have m8 := HM9.out.below HM9.out.lt hg8
            have p8 := prow_below hg8 HP9.out
            have b8 := HB9.out.trans (hg8.mono HB9.out.size)
            go_wp2
            go_roundw
            case rel => exact ⟨k + 1, v6, Q, a6, c6, by omega, by go_num, HK8, by omega, m8, p8, b8, b8.size⟩
            case measure => simp [intOf]; omega
      · obtain rfl : len = k := by omega
        have hsm := HB.out.small
        have HSC1 := Lib.hid (scan_any wr HB.out (by omega) s (by omega) ca za.1 za.2)
        have HSC2 := Lib.hid (fun W (hb : Below wr.heap.size wr W) => scan_any W (HB.out.below hb) (by omega) s (by omega) ca za.1 za.2)
        have HMS := Lib.hid (fun W (hb : Below wr.heap.size wr W) => refscan_any ra rc K M ps W (prow_below hb hpr) (by omega) HB.out.sorted HB.out.small s (by omega) ca za.1 za.2)
        have HLL := Lib.hid (fun p (hp : p ∈ scanL ps s ca) => show p.1.size ≤ 1000 ∧ p.2.size ≤ 1000 by have := hsm p (mem_scanL hp); omega)
        have hll := len_scanL ps s ca
        have HLK := Lib.hid (fun W (hb : Below wr.heap.size wr W) => looks_any W (HB.out.below hb) (by omega) ra rc (prow_below hb hpr) s (by omega))
        have HRB := Lib.hid hrb
        generalize scanL ps s ca = Ls at *
        generalize scanE s ca = E at *
        clear hpr hrb hsm
        go_wp2_with (first
          | (go_at_call 37; refine HSC1.out.mono ?_; clear HSC1; rintro e w3 ⟨xv, rfl, hx3, hn3⟩; obtain ⟨xa, xc, rfl, hxi, _⟩ := prow_is hx3 HLL.out)
          | (go_at_call 37; refine (HSC2.out _ hn3).mono ?_; clear HSC2; rintro e w4 ⟨yv, rfl, hy4, hn4⟩; obtain ⟨ya, yc, rfl, hyi, _⟩ := prow_is hy4 HLL.out; have hb4 := hn3.trans (hn4.mono hn3.size); obtain ⟨c0, c1, c2⟩ := (HRB.out.below HRB.out.lt hb4).cells)
          | (go_at_call 40; refine (HMS.out _ hb4).mono ?_; rintro e w5 ⟨zv, rfl, hz5, hn5⟩; obtain ⟨za', zc, rfl, hzi, _⟩ := prow_is hz5 HLL.out; have hb5 := hb4.trans (hn5.mono hb4.size))
          | (go_at_call 32; refine (same_true ((hxi.below hn4).below hn5) hzi rfl (by omega) (by omega)).mono ?_; rintro e w6 ⟨rfl, hn6⟩; have hb6 := hb5.trans (hn6.mono hb5.size); have hx6 := prow_below hn6 (prow_below hn5 (prow_below hn4 hx3)); have hy6 := prow_below hn6 (prow_below hn5 hy4); have hal : Below w6.heap.size w6 (w6.alloc (.cells #[.slice xa Ls.length xc, .slice ya Ls.length yc] 47)) := (Below.refl _ _).alloc (Nat.le_refl _) _; have hb7 := hb6.trans (hal.mono hb6.size); obtain ⟨l0, l1⟩ := two_lists w6 (.slice xa Ls.length xc) (.slice ya Ls.length yc); have hsx := hn3.size; have hxlt := hx3.lt; have hylt := hy4.lt)
          | (go_at_call 41; refine (apart_two (B := wr.heap.size) (prow_below hal hx6) (ownsRow_base (prow_below hal hy6) hsx) (fun g h1 h2 => by have := (hxlt g h1).2; have := (hylt g h2).1; omega) l0 l1 (by simp) hb7.size (by omega) (by omega) 2).mono ?_; rintro e w8 ⟨rfl, hn8⟩; have hb8 := hb7.trans hn8; obtain ⟨c0, c1, c2⟩ := (HRB.out.below HRB.out.lt hb8).cells)
          | (go_at_call 39; refine (HLK.out _ hb8).mono ?_; rintro e w9 ⟨rfl, hn9⟩)
          | (go_at_call 27; refine (awake_any _).mono ?_; rintro e w10 ⟨rfl, hn10⟩))
        go_ret
        have hb9 := hb8.trans (hn9.mono hb8.size)
        have hb10 := hb9.trans (hn10.mono hb9.size)
        exact ⟨rfl, hB1.trans ((hBr.trans (hb10.mono hszr)).mono hB1.size)⟩

end Go.Proofs.Ytgfhaldfjnepmaa
