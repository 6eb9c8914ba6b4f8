/- Walk: both: operations on an art and on its model. -/
import Derived.Test.YtegccicplcjcmaaWL1
import Derived.Deep.RegionWith
/- A slice of operations on an art, to be read; what the operations make of the pairs. -/
namespace Go.Proofs.Ytegccicplcjcmaa
open Go Go.RowKit Go.Shelf Go.Proofs

structure Deed where
  what : Int
  raw : Bool
  s : ByteArray
  text : ByteArray

def deedCells (d : Deed) : List Value := [.int .i64 d.what, .bool d.raw, .string d.s, .string d.text]

/-- A slice of operations. -/
def IsDeeds (w : World) (a : Option Addr) (len : Nat) (ds : List Deed) : Prop :=
  ds.length = len ∧ len ≤ 9223372036854775807 ∧ (∀ d ∈ ds, d.s.size ≤ 140737488351232 ∧ d.text.size ≤ 140737488351232) ∧
  (len = 0 ∨ ∃ g off, a = some ⟨g, off, none⟩ ∧ g < w.heap.size ∧ ∀ j d, ds[j]? = some d → ∀ i u, (deedCells d)[i]? = some u → w.cell? ⟨g, off + j * 4 + i, none⟩ = some u)

theorem IsDeeds.below {w w' : World} {a : Option Addr} {len : Nat} {ds : List Deed} (h : IsDeeds w a len ds) (hb : Below w.heap.size w w') : IsDeeds w' a len ds := by
  obtain ⟨h1, h0, h3, h2⟩ := h
  refine ⟨h1, h0, h3, ?_⟩
  rcases h2 with h2 | ⟨g, off, rfl, hg, hc⟩
  · exact .inl h2
  · exact .inr ⟨g, off, rfl, Nat.lt_of_lt_of_le hg hb.size, fun j d hd i u hu => (hb.cell (p := ⟨g, off + j * 4 + i, none⟩) hg).trans (hc j d hd i u hu)⟩

/-- .. seen from a block above. -/
theorem IsDeeds.below' {w w' : World} {B : Nat} {a : Option Addr} {len : Nat} {ds : List Deed} (h : IsDeeds w a len ds) (hB : w.heap.size ≤ B) (hb : Below B w w') : IsDeeds w' a len ds := h.below (hb.mono hB)

theorem deed_cells_at {w : World} {a : Option Addr} {len : Nat} {ds : List Deed} (h : IsDeeds w a len ds) {k : Nat} (hk : k < len) :
    ∃ g off d, a = some ⟨g, off, none⟩ ∧ ds[k]? = some d ∧ w.cell? ⟨g, off + k * 4, none⟩ = some (.int .i64 d.what) ∧ w.cell? ⟨g, off + k * 4 + 1, none⟩ = some (.bool d.raw) ∧ w.cell? ⟨g, off + k * 4 + 2, none⟩ = some (.string d.s) ∧
      w.cell? ⟨g, off + k * 4 + 3, none⟩ = some (.string d.text) ∧ d.s.size ≤ 140737488351232 ∧ d.text.size ≤ 140737488351232 ∧ g < w.heap.size := by
  obtain ⟨h1, _, h3, h4⟩ := h
  obtain ⟨g, off, rfl, hg, hc⟩ := h4.resolve_left (by omega)
  obtain ⟨d, hd⟩ : ∃ d, ds[k]? = some d := ⟨_, List.getElem?_eq_getElem (by omega)⟩
  have hb := h3 d (List.mem_of_getElem? hd)
  exact ⟨g, off, d, rfl, hd, hc k d hd 0 _ rfl, hc k d hd 1 _ rfl, hc k d hd 2 _ rfl, hc k d hd 3 _ rfl, hb.1, hb.2, hg⟩

/-- What an operation names, and what it stores. -/
def dkey (d : Deed) : ByteArray := if d.raw then d.s else codB (d.s.extract 0 (min d.s.size 5))
def dval (d : Deed) : ByteArray := d.text.extract 0 (min d.text.size 32)
def dput (d : Deed) : Bool := decide (d.what % 4 < 3)

/-- One operation. -/
def bothS (ps : PS) (d : Deed) : PS := if 200 < (dkey d).size then ps else if dput d then aputQ ps (dkey d) (dval d) else delP ps (dkey d)
/-- All operations, up to fifty. -/
def bothQ (ps : PS) (ds : List Deed) : PS := (ds.take 50).foldl bothS ps

theorem bothS_len {ps : PS} (hs : SortedP ps) (d : Deed) : (bothS ps d).length ≤ ps.length + 1 := by
  unfold bothS aputQ
  split
  · omega
  · split
    · split
      · exact put_len hs _ _
      · omega
    · exact Nat.le_trans (List.length_filter_le _ _) (by omega)

theorem bothS_sorted {ps : PS} (hs : SortedP ps) (d : Deed) : SortedP (bothS ps d) := by
  unfold bothS aputQ
  split
  · exact hs
  · split
    · split
      · exact sorted_put hs _ _
      · exact hs
    · exact sorted_del hs _

theorem foldl_len : ∀ (l : List Deed) {ps : PS}, SortedP ps → (l.foldl bothS ps).length ≤ ps.length + l.length ∧ SortedP (l.foldl bothS ps)
  | [], ps, h => ⟨by simp, h⟩
  | d :: l, ps, h => by
    have h1 := bothS_len h d
    have h2 := foldl_len l (bothS_sorted h d)
    refine ⟨?_, h2.2⟩
    have := h2.1
    simp only [List.foldl_cons, List.length_cons]
    omega

theorem bothQ_len {ps : PS} (hs : SortedP ps) (ds : List Deed) : (bothQ ps ds).length ≤ ps.length + 50 := by
  have := (foldl_len (ds.take 50) hs).1
  rw [List.length_take] at this
  unfold bothQ
  omega

theorem dval_size (d : Deed) : (dval d).size ≤ 32 := by
  unfold dval
  rw [← size_by, by_extract]
  simp
  omega

theorem fold_next (ps : PS) (ds : List Deed) {k : Nat} {d : Deed} (h : ds[k]? = some d) : (ds.take (k + 1)).foldl bothS ps = bothS ((ds.take k).foldl bothS ps) d := by
  rw [List.take_add_one, h]
  simp

end Go.Proofs.Ytegccicplcjcmaa

namespace Go.Proofs.Ytegccicplcjcmaa
open Go Go.RowKit Go.Shelf Go.Proofs
attribute [local go_sem] Oper.semAt_some

theorem cell_below {w w' : World} (hb : Below w.heap.size w w') {p : Addr} {v : Value} (h : w.cell? p = some v) : w'.cell? p = some v := (hb.cell (block_lt_of_cell h)).trans h

/-- A block that holds one value. -/
def OneBlk (w : World) (k : Nat) (t : TypeId) (x : Value) : Prop := w.heap[k]? = some (.cells #[x] t (0, 0))
theorem OneBlk.cell {w : World} {k : Nat} {t : TypeId} {x : Value} (h : OneBlk w k t x) : w.cell? ⟨k, 0, none⟩ = some x := by unfold OneBlk at h; simp [World.cell?, h]
theorem OneBlk.frozen {w : World} {k : Nat} {t : TypeId} {x : Value} (h : OneBlk w k t x) (j : Nat) : w.frozen? ⟨k, j, none⟩ = false := by unfold OneBlk at h; simp [World.frozen?, h]
theorem OneBlk.lt {w : World} {k : Nat} {t : TypeId} {x : Value} (h : OneBlk w k t x) : k < w.heap.size := (Array.getElem?_eq_some_iff.1 h).1
theorem OneBlk.below {w w' : World} {B k : Nat} {t : TypeId} {x : Value} (h : OneBlk w k t x) (hk : k < B) (hb : Below B w w') : OneBlk w' k t x := (hb.block k hk).trans h
theorem OneBlk.turned {B b m : Nat} {v v' : Value} {w w' : World} {ps : PS} (hB : ArtAt w B b m v ps) (ht : Turned b m v w v' w') {k : Nat} {t : TypeId} {x : Value} (h : OneBlk w k t x) (h1 : t ≠ 39) (h2 : t ≠ 9) : OneBlk w' k t x := ht.cells_stay hB h h1 h2
theorem OneBlk.new (w : World) (t : TypeId) (x : Value) : OneBlk (w.alloc (.cells #[x] t)) w.heap.size t x := World.alloc_heap_new _ _
theorem OneBlk.set {w : World} {k : Nat} {t : TypeId} {x : Value} (y : Value) (h : OneBlk w k t x) : OneBlk (w.setCell ⟨k, 0, none⟩ y) k t y := Boxed.set y h

/-- A row of pairs through steps on the art. -/
theorem prow_turned {B B' b m : Nat} {v v' u : Value} {w w' : World} {ps qs : PS} (hB : ArtAt w B b m v ps) (ht : Turned b m v w v' w') (h : PRow w B' u qs) : PRow w' B' u qs := by
  refine ⟨h.1, ?_⟩
  rcases h.2 with h1 | ⟨g, cap, cur, rfl, a, hh, r⟩
  · exact .inl h1
  · exact .inr ⟨g, cap, cur, rfl, a, ht.cells_stay hB hh (by decide) (by decide), r⟩

/-- A block of another kind is none of the art's. -/
theorem art_apart {B b m : Nat} {v : Value} {w : World} {ps : PS} (h : ArtAt w B b m v ps) {g : Nat} {ob : Obj} (hg : w.heap[g]? = some ob) (h1 : ∀ c f, ob ≠ .cells c 39 f) (h2 : ∀ c f, ob ≠ .cells c 9 f) (h3 : ∀ es ck, ob ≠ .map es ck) : g ≠ b ∧ g ≠ m ∧ v.ownBlock ≠ some g := by
  refine ⟨?_, ?_, ?_⟩
  · rintro rfl
    rw [h.cells] at hg; cases hg; exact h1 _ _ rfl
  · rintro rfl
    obtain ⟨f, hf, _⟩ := h.map
    obtain ⟨es, clock, hm⟩ := hf.isMap
    rw [hm] at hg; cases hg; exact h3 _ _ rfl
  · intro e2
    rcases row_get h.row with ⟨rfl, _⟩ | ⟨g', cap, cur', rfl, _, hh, _⟩
    · simp [Value.ownBlock] at e2
    · simp [Value.ownBlock] at e2
      subst e2
      rw [hh] at hg; cases hg; exact h2 _ _ rfl

theorem art_set {B b m : Nat} {v : Value} {w : World} {ps : PS} (h : ArtAt w B b m v ps) {k : Nat} {t : TypeId} {x : Value} (hk : OneBlk w k t x) (h1 : t ≠ 39) (h2 : t ≠ 9) (y : Value) : ArtAt (w.setCell ⟨k, 0, none⟩ y) B b m v ps := by
  obtain ⟨a1, a2, a3⟩ := art_apart h hk (fun _ _ e => by cases e; exact h1 rfl) (fun _ _ e => by cases e; exact h2 rfl) (fun _ _ e => by cases e)
  exact h.stay (Below.heap_setCell _ _ _ _ (Ne.symm a1)) (Below.heap_setCell _ _ _ _ (Ne.symm a2)) (fun j hj => Below.heap_setCell _ _ _ _ (fun e => a3 (by rw [hj, e])))

theorem prow_set1 {B : Nat} {v : Value} {w : World} {ps : PS} (h : PRow w B v ps) {k : Nat} {t : TypeId} {x : Value} (hk : OneBlk w k t x) (h1 : t ≠ 48) (y : Value) : PRow (w.setCell ⟨k, 0, none⟩ y) B v ps :=
  h.kept (grownBy_setCell' w k y) (.inr (Ne.symm (Boxed.not_row hk h1 h)))

theorem one_set_other {w : World} {k j : Nat} {t : TypeId} {x : Value} (h : OneBlk w k t x) (hj : j ≠ k) (y : Value) : OneBlk (w.setCell ⟨j, 0, none⟩ y) k t x := (Below.heap_setCell _ _ _ _ (Ne.symm hj)).trans h

theorem Turned.set {b m : Nat} {v v' : Value} {w W : World} (h : Turned b m v w v' W) {k : Nat} (hk : w.heap.size ≤ k) (y : Value) : Turned b m v w v' (W.setCell ⟨k, 0, none⟩ y) :=
  ⟨⟨h.1.os, h.1.tape, h.1.output, by simp only [World.setCell]; have := h.1.size; exact (KeepsWalks.setCell W ⟨k, 0, none⟩ y).size |> Nat.le_trans this, fun j hj a c d => (Below.heap_setCell _ _ _ _ (show j ≠ k by omega)).trans (h.1.block j hj a c d)⟩, h.2⟩

set_option linter.unusedVariables false in
set_option maxRecDepth 100000 in
set_option maxHeartbeats 16000000 in
theorem both_any {B b m : Nat} {v : Value} {ps : PS} (w : World) (h : ArtAt w B b m v ps) (hn : ps.length < 70000) (hBs : B ≤ w.heap.size) (ra : Option Addr) (rc : Nat) (hr : PRow w 0 (.slice ra ps.length rc) ps)
    (w0 : World) (hw0 : w0.heap.size ≤ B) (hb0 : Below w0.heap.size w0 w) (a : Option Addr) (len cap : Nat) (ds : List Deed) (hds : IsDeeds w0 a len ds) :
    Calls Try.prog 15 #[.pointer (some ⟨b, 0, none⟩), .agg #[.slice ra ps.length rc], .slice a len cap] w fun e w' => ∃ a' c' v', e = .returned (.agg #[.slice a' (bothQ ps ds).length c']) ∧ PRow w' 0 (.slice a' (bothQ ps ds).length c') (bothQ ps ds) ∧ ArtAt w' B b m v' (bothQ ps ds) ∧ Turned b m v w v' w' := by
  obtain ⟨w1, hw1⟩ : ∃ w1, w1 = (w.alloc (.cells #[.slice ra ps.length rc] 28)).alloc (.cells #[.slice none 0 0] 28) := ⟨_, rfl⟩
  have hB1 : Below w.heap.size w w1 := by rw [hw1]; exact ((Below.refl _ _).alloc (Nat.le_refl _) _).alloc (by simp) _
  have hsz1 : w1.heap.size = w.heap.size + 1 + 1 := by rw [hw1]; simp
  have hm1 : OneBlk w1 w.heap.size 28 (.slice ra ps.length rc) := by rw [hw1]; exact key1 _ _ _ _ (OneBlk.new _ _ _)
  have ho1 : OneBlk w1 (w.heap.size + 1) 28 (.slice none 0 0) := by
    rw [hw1]
    have := OneBlk.new (w.alloc (.cells #[.slice ra ps.length rc] 28)) 28 (.slice none 0 0)
    rw [World.size_alloc] at this
    exact this
  have ha1 := Lib.hid (h.below hB1)
  have ht1 : Turned b m v w v w1 := Turned.of_below hB1
  have hr1 := prow_below hB1 hr
  have HDS := Lib.hid (fun W (hb : Below w0.heap.size w0 W) k (hk : k < len) => deed_cells_at (hds.below hb) hk)
  have hsz0 := hb0.size
  have hlds := hds.1
  have hso := h.sorted
  have HLOW := Lib.hid (fun (W : World) (v' : Value) (ht : Turned b m v w v' W) => hb0.trans ((Turned.below h ht hBs).mono hw0))
  clear h hds hr
  go_enter Try.func15, Try.ntmps15
  go_wp2
  rw [← hw1]
  clear hw1
  go_loopw [7] (fun i wr => ∃ (k : Nat) (v' : Value) (qs : PS) (ra' : Option Addr) (rc' : Nat), k ≤ len ∧ k ≤ 50 ∧ i = .int .i64 k ∧ Hid (ArtAt wr B b m v' qs) ∧ qs.length ≤ ps.length + k ∧ Hid (qs = (ds.take k).foldl bothS ps) ∧ OneBlk wr w.heap.size 28 (.slice ra' qs.length rc') ∧ OneBlk wr (w.heap.size + 1) 28 (.slice none 0 0) ∧ PRow wr 0 (.slice ra' qs.length rc') qs ∧ Turned b m v w v' wr ∧ w1.heap.size ≤ wr.heap.size) (fun i _ => 50 - (intOf i).toNat)
  case atStart => exact ⟨0, v, ps, ra, rc, Nat.zero_le _, by omega, rfl, ha1, Nat.le_refl _, Lib.hid rfl, hm1, ho1, hr1, ht1, Nat.le_refl _⟩
  case round =>
    clear ha1 hm1 ho1 hr1 ht1
    obtain ⟨k, v', qs, ra', rc', hk, hk5, rfl, HA, hql, HQ, hm, ho, hpr, ht, hsz⟩ := hrel
    by_cases hk1 : k < len
    · by_cases hk2 : k < 50
      · have hlow := HLOW.out _ _ ht
        obtain ⟨g, off, d, rfl, hd, d0, d1, d2, d3, z1, z2, hg0⟩ := HDS.out wr hlow k hk1
        have HNX := Lib.hid (fold_next ps ds hd)
        rw [← HQ.out] at HNX
        clear hd
        obtain ⟨what, raw, sk, text⟩ := d
        simp only at d0 d1 d2 d3 z1 z2
        have HDC := Lib.hid (fun W (hb : Below wr.heap.size wr W) => And.intro (cell_below hb d0) (And.intro (cell_below hb d1) (And.intro (cell_below hb d2) (cell_below hb d3))))
        have hqs := HA.out.sorted
        have HSM := Lib.hid HA.out.small
        have HPR := Lib.hid hpr
        have HT := Lib.hid ht
        have HM := Lib.hid hm
        have HO := Lib.hid ho
        obtain ⟨t3, ht3⟩ : ∃ t3, t3 = min text.size 32 := ⟨_, rfl⟩
        have hmin3 : min (text.size : Int) 32 = (t3 : Int) := by omega
        have hm3 : (0 : Int) ≤ (t3 : Int) := by omega
        have hm3b : (t3 : Int) ≤ (text.size : Int) := by omega
        have hv3 : Hid (dval ⟨what, raw, sk, text⟩ = text.extract 0 t3) := Lib.hid (by unfold dval; rw [ht3])
        clear ht3
        have hv32 := dval_size ⟨what, raw, sk, text⟩
        have hpb : Hid (dput ⟨what, raw, sk, text⟩ = decide (what % 4 < 3)) := Lib.hid rfl
        have c0 := hm.cell
        have HPK := Lib.hid (fun W => pick_any what 4 W (by decide) (by decide))
        clear hpr ht hm ho
        cases raw with
        | true =>
          have hkey : Hid (dkey ⟨what, true, sk, text⟩ = sk) := Lib.hid rfl
          go_wp2_with fail
          go_region
          have hb4 : Below wr.heap.size wr wr.drew := (Below.refl _ _).drew
          have hval := hv3
          generalize text.extract 0 t3 = V at hval ⊢
          generalize wr.drew = w4 at hb4 ⊢
          rw [hval.out] at hv32
          have hA4 := Lib.hid (HA.out.below hb4)
          have hT4 := Lib.hid (Turned.trans HT.out (Turned.of_below hb4))
          have hM4 := Lib.hid (HM.out.below HM.out.lt hb4)
          have hO4 := Lib.hid (HO.out.below HO.out.lt hb4)
          have hP4 := Lib.hid (prow_below hb4 HPR.out)
          have hsz4 := hb4.size
          obtain ⟨e0, e1, e2, e3⟩ := HDC.out _ hb4
          by_cases hbig : 200 < sk.size
          · have ibig : (200 : Int) < (sk.size : Int) := by omega
            have hS : Hid (bothS qs ⟨what, true, sk, text⟩ = qs) := Lib.hid (by unfold bothS; rw [hkey.out, if_pos hbig])
            rw [hS.out] at HNX
            go_wp2
            go_roundw
            case rel => exact ⟨k + 1, v', qs, ra', rc', by omega, by omega, by go_num, hA4, by omega, Lib.hid HNX.out.symm, hM4.out, hO4.out, hP4.out, hT4.out, by omega⟩
            case measure => simp [intOf]; omega
          · have ibig : ¬ (200 : Int) < (sk.size : Int) := by omega
            by_cases hput : what % 4 < 3
            · have hS : Hid (bothS qs ⟨what, true, sk, text⟩ = aputQ qs sk V) := Lib.hid (by unfold bothS; rw [hkey.out, if_neg hbig, hpb.out, decide_eq_true hput, hval.out]; rfl)
              rw [hS.out] at HNX
              have hQl : (aputQ qs sk V).length ≤ qs.length + 1 := by
                unfold aputQ
                split
                · exact put_len hqs _ _
                · omega
              have HRP := Lib.hid (refputA_any ra' rc' qs w4 hP4.out (by omega) hqs HSM.out sk V (by omega) (by omega))
              have cm4 := hM4.out.cell
              have HAP := Lib.hid (fun W (hA : ArtAt W B b m v' qs) (hB : B ≤ W.heap.size) => aput_any W hA (by omega) hB sk V (by omega) (by omega))
              generalize aputQ qs sk V = Q at *
              generalize aputE sk V = Ee at HRP HAP
              go_wp2_with (first
                | (go_at_call 26; refine (HPK.out _).mono ?_; rintro e w5 ⟨⟨kk, rfl, hkk, hkm⟩, rfl⟩; have i3 : (kk : Int) < 3 := (by omega))
                | (go_at_call 9; refine HRP.out.mono ?_; rintro e w6 ⟨a6, c6, rfl, hro, hn6⟩; have hM6 := hM4.out.below hM4.out.lt hn6; have cm6 := hM6.cell; have fm6 := hM6.frozen 0; have hA7 := Lib.hid (art_set (hA4.out.below hn6) hM6 (by decide) (by decide) (.slice a6 Q.length c6)); have hP7 := Lib.hid (prow_set1 hro.1 hM6 (by decide) (.slice a6 Q.length c6)); have hM7 := Lib.hid (hM6.set (.slice a6 Q.length c6)); have hO7 := Lib.hid (one_set_other (hO4.out.below hO4.out.lt hn6) (show w.heap.size ≠ w.heap.size + 1 by omega) (.slice a6 Q.length c6)); have hT7 := Lib.hid ((hT4.out.trans (Turned.of_below hn6)).set (Nat.le_refl _) (.slice a6 Q.length c6)); have hn6s := hn6.size; have hs7 := (grownBy_setCell' w6 w.heap.size (.slice a6 Q.length c6)).size; have HAQ := Lib.hid (HAP.out _ hA7.out (by omega)))
                | (go_at_call 11; refine HAQ.out.mono ?_; rintro e w8 ⟨rfl, v8, hA8, hT8⟩; have hM8 := hM7.out.turned hA7.out hT8 (by decide) (by decide); have hO8 := hO7.out.turned hA7.out hT8 (by decide) (by decide); have hP8 := prow_turned hA7.out hT8 hP7.out; have hT9 := hT7.out.trans hT8; have hs8 := hT8.size))
              go_roundw
              case rel => exact ⟨k + 1, v8, Q, a6, c6, by omega, by omega, by go_num, Lib.hid hA8, by omega, Lib.hid HNX.out.symm, hM8, hO8, hP8, hT9, by omega⟩
              case measure => simp [intOf]; omega
            · have hS : Hid (bothS qs ⟨what, true, sk, text⟩ = delP qs sk) := Lib.hid (by unfold bothS; rw [hkey.out, if_neg hbig, hpb.out, decide_eq_false hput]; rfl)
              rw [hS.out] at HNX
              have hQl : (delP qs sk).length ≤ qs.length := List.length_filter_le _ _
              have HRP := Lib.hid (refdelA_any ra' rc' qs w4 hP4.out (by omega) hqs HSM.out sk)
              have HAP := Lib.hid (fun W (hA : ArtAt W B b m v' qs) => adel_any W hA (by omega) sk (by omega))
              have cm4 := hM4.out.cell
              generalize delP qs sk = Q at *
              generalize adelE qs sk = Ee at HRP HAP
              go_wp2_with (first
                | (go_at_call 26; refine (HPK.out _).mono ?_; rintro e w5 ⟨⟨kk, rfl, hkk, hkm⟩, rfl⟩; have i3 : ¬ (kk : Int) < 3 := (by omega))
                | (go_at_call 43; refine HRP.out.mono ?_; rintro e w6 ⟨a6, c6, rfl, hro, hn6⟩; have hM6 := hM4.out.below hM4.out.lt hn6; have cm6 := hM6.cell; have fm6 := hM6.frozen 0; have hA7 := Lib.hid (art_set (hA4.out.below hn6) hM6 (by decide) (by decide) (.slice a6 Q.length c6)); have hP7 := Lib.hid (prow_set1 hro.1 hM6 (by decide) (.slice a6 Q.length c6)); have hM7 := Lib.hid (hM6.set (.slice a6 Q.length c6)); have hO7 := Lib.hid (one_set_other (hO4.out.below hO4.out.lt hn6) (show w.heap.size ≠ w.heap.size + 1 by omega) (.slice a6 Q.length c6)); have hT7 := Lib.hid ((hT4.out.trans (Turned.of_below hn6)).set (Nat.le_refl _) (.slice a6 Q.length c6)); have hn6s := hn6.size; have hs7 := (grownBy_setCell' w6 w.heap.size (.slice a6 Q.length c6)).size; have HAQ := Lib.hid (HAP.out _ hA7.out))
                | (go_at_call 44; refine HAQ.out.mono ?_; rintro e w8 ⟨rfl, v8, hA8, hT8⟩; have hM8 := hM7.out.turned hA7.out hT8 (by decide) (by decide); have hO8 := hO7.out.turned hA7.out hT8 (by decide) (by decide); have hP8 := prow_turned hA7.out hT8 hP7.out; have hT9 := hT7.out.trans hT8; have hs8 := hT8.size))
              go_roundw
              case rel => exact ⟨k + 1, v8, Q, a6, c6, by omega, by omega, by go_num, Lib.hid hA8, by omega, Lib.hid HNX.out.symm, hM8, hO8, hP8, hT9, by omega⟩
              case measure => simp [intOf]; omega
        | false =>
          obtain ⟨t5, ht5⟩ : ∃ t5, t5 = min sk.size 5 := ⟨_, rfl⟩
          have hmin5 : min (sk.size : Int) 5 = (t5 : Int) := by omega
          have hm5 : (0 : Int) ≤ (t5 : Int) := by omega
          have hm5b : (t5 : Int) ≤ (sk.size : Int) := by omega
          have hkey : Hid (dkey ⟨what, false, sk, text⟩ = codB (sk.extract 0 t5)) := Lib.hid (by unfold dkey; rw [ht5]; rfl)
          clear ht5
          go_wp2_with (go_at_call 10; refine (coded_any _ _).mono ?_; rintro e w3 ⟨rfl, rfl⟩)
          go_region
          generalize codB (sk.extract 0 t5) = K at hkey ⊢
          have hb4 : Below wr.heap.size wr wr.drew := (Below.refl _ _).drew
          have hval := hv3
          generalize text.extract 0 t3 = V at hval ⊢
          generalize wr.drew = w4 at hb4 ⊢
          rw [hval.out] at hv32
          have hA4 := Lib.hid (HA.out.below hb4)
          have hT4 := Lib.hid (Turned.trans HT.out (Turned.of_below hb4))
          have hM4 := Lib.hid (HM.out.below HM.out.lt hb4)
          have hO4 := Lib.hid (HO.out.below HO.out.lt hb4)
          have hP4 := Lib.hid (prow_below hb4 HPR.out)
          have hsz4 := hb4.size
          obtain ⟨e0, e1, e2, e3⟩ := HDC.out _ hb4
          by_cases hbig : 200 < K.size
          · have ibig : (200 : Int) < (K.size : Int) := by omega
            have hS : Hid (bothS qs ⟨what, false, sk, text⟩ = qs) := Lib.hid (by unfold bothS; rw [hkey.out, if_pos hbig])
            rw [hS.out] at HNX
            go_wp2
            go_roundw
            case rel => exact ⟨k + 1, v', qs, ra', rc', by omega, by omega, by go_num, hA4, by omega, Lib.hid HNX.out.symm, hM4.out, hO4.out, hP4.out, hT4.out, by omega⟩
            case measure => simp [intOf]; omega
          · have ibig : ¬ (200 : Int) < (K.size : Int) := by omega
            by_cases hput : what % 4 < 3
            · have hS : Hid (bothS qs ⟨what, false, sk, text⟩ = aputQ qs K V) := Lib.hid (by unfold bothS; rw [hkey.out, if_neg hbig, hpb.out, decide_eq_true hput, hval.out]; rfl)
              rw [hS.out] at HNX
              have hQl : (aputQ qs K V).length ≤ qs.length + 1 := by
                unfold aputQ
                split
                · exact put_len hqs _ _
                · omega
              have HRP := Lib.hid (refputA_any ra' rc' qs w4 hP4.out (by omega) hqs HSM.out K V (by omega) (by omega))
              have cm4 := hM4.out.cell
              have HAP := Lib.hid (fun W (hA : ArtAt W B b m v' qs) (hB : B ≤ W.heap.size) => aput_any W hA (by omega) hB K V (by omega) (by omega))
              generalize aputQ qs K V = Q at *
              generalize aputE K V = Ee at HRP HAP
              go_wp2_with (first
                | (go_at_call 26; refine (HPK.out _).mono ?_; rintro e w5 ⟨⟨kk, rfl, hkk, hkm⟩, rfl⟩; have i3 : (kk : Int) < 3 := (by omega))
                | (go_at_call 9; refine HRP.out.mono ?_; rintro e w6 ⟨a6, c6, rfl, hro, hn6⟩; have hM6 := hM4.out.below hM4.out.lt hn6; have cm6 := hM6.cell; have fm6 := hM6.frozen 0; have hA7 := Lib.hid (art_set (hA4.out.below hn6) hM6 (by decide) (by decide) (.slice a6 Q.length c6)); have hP7 := Lib.hid (prow_set1 hro.1 hM6 (by decide) (.slice a6 Q.length c6)); have hM7 := Lib.hid (hM6.set (.slice a6 Q.length c6)); have hO7 := Lib.hid (one_set_other (hO4.out.below hO4.out.lt hn6) (show w.heap.size ≠ w.heap.size + 1 by omega) (.slice a6 Q.length c6)); have hT7 := Lib.hid ((hT4.out.trans (Turned.of_below hn6)).set (Nat.le_refl _) (.slice a6 Q.length c6)); have hn6s := hn6.size; have hs7 := (grownBy_setCell' w6 w.heap.size (.slice a6 Q.length c6)).size; have HAQ := Lib.hid (HAP.out _ hA7.out (by omega)))
                | (go_at_call 11; refine HAQ.out.mono ?_; rintro e w8 ⟨rfl, v8, hA8, hT8⟩; have hM8 := hM7.out.turned hA7.out hT8 (by decide) (by decide); have hO8 := hO7.out.turned hA7.out hT8 (by decide) (by decide); have hP8 := prow_turned hA7.out hT8 hP7.out; have hT9 := hT7.out.trans hT8; have hs8 := hT8.size))
              go_roundw
              case rel => exact ⟨k + 1, v8, Q, a6, c6, by omega, by omega, by go_num, Lib.hid hA8, by omega, Lib.hid HNX.out.symm, hM8, hO8, hP8, hT9, by omega⟩
              case measure => simp [intOf]; omega
            · have hS : Hid (bothS qs ⟨what, false, sk, text⟩ = delP qs K) := Lib.hid (by unfold bothS; rw [hkey.out, if_neg hbig, hpb.out, decide_eq_false hput]; rfl)
              rw [hS.out] at HNX
              have hQl : (delP qs K).length ≤ qs.length := List.length_filter_le _ _
              have HRP := Lib.hid (refdelA_any ra' rc' qs w4 hP4.out (by omega) hqs HSM.out K)
              have HAP := Lib.hid (fun W (hA : ArtAt W B b m v' qs) => adel_any W hA (by omega) K (by omega))
              have cm4 := hM4.out.cell
              generalize delP qs K = Q at *
              generalize adelE qs K = Ee at HRP HAP
              go_wp2_with (first
                | (go_at_call 26; refine (HPK.out _).mono ?_; rintro e w5 ⟨⟨kk, rfl, hkk, hkm⟩, rfl⟩; have i3 : ¬ (kk : Int) < 3 := (by omega))
                | (go_at_call 43; refine HRP.out.mono ?_; rintro e w6 ⟨a6, c6, rfl, hro, hn6⟩; have hM6 := hM4.out.below hM4.out.lt hn6; have cm6 := hM6.cell; have fm6 := hM6.frozen 0; have hA7 := Lib.hid (art_set (hA4.out.below hn6) hM6 (by decide) (by decide) (.slice a6 Q.length c6)); have hP7 := Lib.hid (prow_set1 hro.1 hM6 (by decide) (.slice a6 Q.length c6)); have hM7 := Lib.hid (hM6.set (.slice a6 Q.length c6)); have hO7 := Lib.hid (one_set_other (hO4.out.below hO4.out.lt hn6) (show w.heap.size ≠ w.heap.size + 1 by omega) (.slice a6 Q.length c6)); have hT7 := Lib.hid ((hT4.out.trans (Turned.of_below hn6)).set (Nat.le_refl _) (.slice a6 Q.length c6)); have hn6s := hn6.size; have hs7 := (grownBy_setCell' w6 w.heap.size (.slice a6 Q.length c6)).size; have HAQ := Lib.hid (HAP.out _ hA7.out))
                | (go_at_call 44; refine HAQ.out.mono ?_; rintro e w8 ⟨rfl, v8, hA8, hT8⟩; have hM8 := hM7.out.turned hA7.out hT8 (by decide) (by decide); have hO8 := hO7.out.turned hA7.out hT8 (by decide) (by decide); have hP8 := prow_turned hA7.out hT8 hP7.out; have hT9 := hT7.out.trans hT8; have hs8 := hT8.size))
              go_roundw
              case rel => exact ⟨k + 1, v8, Q, a6, c6, by omega, by omega, by go_num, Lib.hid hA8, by omega, Lib.hid HNX.out.symm, hM8, hO8, hP8, hT9, by omega⟩
              case measure => simp [intOf]; omega
      · obtain rfl : k = 50 := by omega
        have hfin : Hid (qs = bothQ ps ds) := Lib.hid (HQ.out.trans rfl)
        have cm := hm.cell
        have co := ho.cell
        have fo := ho.frozen 0
        have HTW := Lib.hid ht
        have HAA := Lib.hid (art_set HA.out ho (by decide) (by decide) (.slice ra' qs.length rc'))
        have HPP := Lib.hid (prow_set1 hpr ho (by decide) (.slice ra' qs.length rc'))
        clear hm ho hpr ht
        go_wp2
        refine bodyPost_ret (v := .agg #[.slice ra' qs.length rc']) ?_ rfl ?_
        · rw [results_cell rfl]
          go_simp
        · rw [← hfin.out]
          exact ⟨ra', rc', v', rfl, HPP.out, HAA.out, HTW.out.set (show w.heap.size ≤ w.heap.size + 1 by omega) _⟩
    · obtain rfl : len = k := by omega
      have hfin : Hid (qs = bothQ ps ds) := Lib.hid (HQ.out.trans (by rw [List.take_of_length_le (by omega)]; unfold bothQ; rw [List.take_of_length_le (by omega)]))
      have cm := hm.cell
      have co := ho.cell
      have fo := ho.frozen 0
      have HTW := Lib.hid ht
      have HAA := Lib.hid (art_set HA.out ho (by decide) (by decide) (.slice ra' qs.length rc'))
      have HPP := Lib.hid (prow_set1 hpr ho (by decide) (.slice ra' qs.length rc'))
      clear hm ho hpr ht
      go_wp2
      refine bodyPost_ret (v := .agg #[.slice ra' qs.length rc']) ?_ rfl ?_
      · rw [results_cell rfl]
        go_simp
      · rw [← hfin.out]
        exact ⟨ra', rc', v', rfl, HPP.out, HAA.out, HTW.out.set (show w.heap.size ≤ w.heap.size + 1 by omega) _⟩

end Go.Proofs.Ytegccicplcjcmaa

