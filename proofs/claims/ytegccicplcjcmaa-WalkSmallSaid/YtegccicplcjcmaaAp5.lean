/- Walk: do lists of pairs lie apart (ApartPairs). -/
import Derived.Test.YtegccicplcjcmaaAp4
import Derived.Test.YtegccicplcjcmaaFlat0
namespace Go.Proofs.Ytegccicplcjcmaa
open Go Go.RowKit Go.Shelf Go.Proofs
attribute [local go_sem] Oper.semAt_some

def nilS : Value := .slice none 0 0
/-- A bag whose lists of pairs are v. -/
def BagAt (w : World) (b : Nat) (v : Value) : Prop := w.heap[b]? = some (.cells #[.slice none 0 0, .slice none 0 0, .slice none 0 0, .slice none 0 0, .slice none 0 0, .slice none 0 0, .slice none 0 0, .slice none 0 0, v, .slice none 0 0, .slice none 0 0, .slice none 0 0, .slice none 0 0, .slice none 0 0, .slice none 0 0, .slice none 0 0, .slice none 0 0, .slice none 0 0] 119 (0, 0))

theorem BagAt.lt {w : World} {b : Nat} {v : Value} (h : BagAt w b v) : b < w.heap.size := (Array.getElem?_eq_some_iff.1 h).1
theorem BagAt.below {w w' : World} {b : Nat} {v : Value} (h : BagAt w b v) (hb : Below w.heap.size w w') : BagAt w' b v := (hb.block b h.lt).trans h
theorem BagAt.cell8 {w : World} {b : Nat} {v : Value} (h : BagAt w b v) : w.cell? ⟨b, 8, none⟩ = some v ∧ ∀ j, w.frozen? ⟨b, j, none⟩ = false := by
  unfold BagAt at h
  exact ⟨by simp [World.cell?, h], fun j => by simp [World.frozen?, h]⟩
theorem BagAt.cells {w : World} {b : Nat} {v : Value} (h : BagAt w b v) (j : Nat) (hj : j < 18) (h8 : j ≠ 8) : w.cell? ⟨b, j, none⟩ = some (.slice none 0 0) := by
  unfold BagAt at h
  obtain rfl | rfl | rfl | rfl | rfl | rfl | rfl | rfl | rfl | rfl | rfl | rfl | rfl | rfl | rfl | rfl | rfl : j = 0 ∨ j = 1 ∨ j = 2 ∨ j = 3 ∨ j = 4 ∨ j = 5 ∨ j = 6 ∨ j = 7 ∨ j = 9 ∨ j = 10 ∨ j = 11 ∨ j = 12 ∨ j = 13 ∨ j = 14 ∨ j = 15 ∨ j = 16 ∨ j = 17 := by omega
  all_goals simp [World.cell?, h]
theorem BagAt.others {w w' : World} {b : Nat} {v : Value} (h : BagAt w b v) (ho : Others w w') : BagAt w' b v := ho b _ h (fun _ _ e => by cases e)

theorem bag_grown {w w' : World} {B b k : Nat} {v u : Value} {xs : List Value} (h : BagAt w b v) (ho : w.ownsRow B 26 1 u k xs) (hg : w.grownBy w' u.ownBlock) : BagAt w' b v := by
  refine (hg.block b h.lt ?_).trans h
  intro e
  rcases ho.2 with ⟨e1, _⟩ | ⟨g, cap, cur, e1, _, hh, _⟩
  · rw [e1] at e; cases e
  · rw [e1] at e
    cases e
    unfold BagAt at h
    rw [hh] at h
    cases h

theorem list_form {w : World} {B k : Nat} {v : Value} {xs : List Value} (h : w.ownsRow B 26 1 v k xs) (hk : 0 < k) : ∃ g c, v = .slice (some ⟨g, 0, none⟩) k c := by
  rcases h.2 with ⟨_, e⟩ | ⟨g, cap, _, e, _⟩
  · omega
  · exact ⟨g, cap, e⟩

theorem list_setbag {w : World} {B k b : Nat} {v u : Value} {xs : List Value} (h : w.ownsRow B 26 1 v k xs) (hb : BagAt w b u) (x : Value) : (w.setCell ⟨b, 8, none⟩ x).ownsRow B 26 1 v k xs := by
  refine ⟨h.1, ?_⟩
  rcases h.2 with h1 | ⟨g, cap, cur, rfl, a, hh, r⟩
  · exact .inl h1
  · refine .inr ⟨g, cap, cur, rfl, a, (Below.heap_setCell _ _ _ _ ?_).trans hh, r⟩
    rintro rfl
    unfold BagAt at hb
    rw [hb] at hh
    cases hh

theorem bag_set {w : World} {b : Nat} {v : Value} (h : BagAt w b v) (u : Value) : BagAt (w.setCell ⟨b, 8, none⟩ u) b u := by
  have := heap_setCell_same h 8 u
  exact this

set_option maxRecDepth 100000 in
set_option maxHeartbeats 4000000 in
theorem putpairs_any (w : World) (B b : Nat) (v : Value) (k : Nat) (xs : List Value) (hb : BagAt w b v) (hown : w.ownsRow B 26 1 v k xs) (hBb : B ≤ b) (hk : k ≤ 1000) (a : Option Addr) (ln lc : Nat) :
    Calls Try.prog 58 #[.pointer (some ⟨b, 0, none⟩), .slice a ln lc] w fun e w' => e = .returned (.tuple #[]) ∧ ∃ v', BagAt w' b v' ∧ w'.ownsRow B 26 1 v' (k + 1) (xs ++ [.slice a ln lc]) ∧ Below B w w' := by
  obtain ⟨i0, hi, hz0, hz1, hz2⟩ := info_parts2 infoLists
  obtain ⟨c8, f8⟩ := hb.cell8
  have hlt := hb.lt
  have HB := Lib.hid hb
  have HO := Lib.hid hown
  have hb1 : Below w.heap.size w (w.alloc (.cells #[.slice a ln lc] 26)) := (Below.refl _ _).alloc (Nat.le_refl _) _
  have hO1 := ownsRow_below HO.out hb1 (Nat.le_refl _)
  have hcn : (w.alloc (.cells #[.slice a ln lc] 26)).cell? ⟨w.heap.size, 0, none⟩ = some (.slice a ln lc) := by
    have := World.alloc_heap_new w (.cells #[.slice a ln lc] 26)
    unfold World.cell?
    simp only [this]
    rfl
  have hnews : ∀ j u, ([.slice a ln lc] : List Value)[j]? = some u → (w.alloc (.cells #[.slice a ln lc] 26)).cell? ((⟨w.heap.size, 0, none⟩ : Addr).add j) = some u := fun j u hu => by
    match j, hu with
    | 0, hu => cases hu; exact hcn
  clear hb hown
  go_enter Try.func58, Try.ntmps58
  go_wp2_with (at_builtin; refine wpList_append_own_at _ rfl _ _ 80 rfl B 26 i0 (.slice none 0 0) 1 24 Try.underlying80 hi hz0 hz1 hz2 rfl (by decide) _ k xs rfl hO1 ⟨w.heap.size, 0, none⟩ 1 1 [.slice a ln lc] rfl rfl hnews (by simp [Value.oneCell']) (by unfold maxLen; omega) (by omega) (by simp; omega) ?_; intro v' w3 q1 q2 _ q3; have hbk3 : BagAt w3 b v := bag_grown (HB.out.below hb1) hO1 q2; obtain ⟨c8', f8'⟩ := hbk3.cell8; obtain ⟨g', c', rfl⟩ := list_form q1 (Nat.succ_pos _))
  have hle : B ≤ w.heap.size := by omega
  have hbf : Below B w w3 := (hb1.mono hle).grown q2 (by simp; omega) (fun g hg => (hO1.lt g hg).1)
  go_end0
  exact ⟨rfl, _, bag_set hbk3 _, list_setbag q1 hbk3 _, hbf.setCell (p := ⟨b, 8, none⟩) hBb _⟩

set_option maxRecDepth 100000 in
set_option maxHeartbeats 16000000 in
theorem apart_any (w : World) (B b L n lc : Nat) (cur : Array Value) (fz : Nat × Nat) (vs : Nat → Value) (ns : Nat → Nat) (hbk : BagAt w b (.slice (some ⟨L, 0, none⟩) n lc)) (hF : FlatIn w B L n cur vs ns) (hl : w.heap[L]? = some (.cells cur 26 fz)) (hrows : ∀ j, j < n → ∃ p, p.length = ns j ∧ PRow w B (vs j) p) :
    Calls Try.prog 59 #[.pointer (some ⟨b, 0, none⟩)] w fun e w' => e = .returned (.bool true) ∧ Below B w w' := by
  have hB := hF.hB
  have HBK := Lib.hid hbk
  have HFP := Lib.hid (fun W (hb : Below w.heap.size w W) (hk : BagAt W b (.slice (some ⟨L, 0, none⟩) n lc)) => flatpairs_all W B L n lc cur fz vs ns ⟨hF.cur, hF.dis, Nat.le_trans hB hb.size, hF.hn, hF.hns⟩ ((hb.block L (Array.getElem?_eq_some_iff.1 hl).1).trans hl) (fun j hj => by
    obtain ⟨p, h1, h2⟩ := hrows j hj
    exact ⟨p, h1, ownsRow_below h2 hb (Nat.le_refl _)⟩))
  have cc0 := hbk.cells 0 (by omega) (by omega)
  clear hbk hF hl hrows
  go_enter Try.func59, Try.ntmps59
  go_wp2_with (first
    | (go_at_call 73; refine (flatLimbs_nil _).mono ?_; rintro e w0 ⟨rfl, n0⟩; have hk0 := HBK.out.below n0; have hq0 : Below w.heap.size w w0 := n0; have cc1 := hk0.cells 1 (by omega) (by omega))
    | (go_at_call 74; refine (flatWords_nil _).mono ?_; rintro e w1 ⟨rfl, n1⟩; have hk1 := hk0.below n1; have hq1 : Below w.heap.size w w1 := hq0.trans (n1.mono hq0.size); have cc2 := hk1.cells 2 (by omega) (by omega))
    | (go_at_call 75; refine (flatInts_nil _).mono ?_; rintro e w2 ⟨rfl, n2⟩; have hk2 := hk1.below n2; have hq2 : Below w.heap.size w w2 := hq1.trans (n2.mono hq1.size); have cc3 := hk2.cells 3 (by omega) (by omega))
    | (go_at_call 76; refine (flatLongs_nil _).mono ?_; rintro e w3 ⟨rfl, n3⟩; have hk3 := hk2.below n3; have hq3 : Below w.heap.size w w3 := hq2.trans (n3.mono hq2.size); have cc4 := hk3.cells 4 (by omega) (by omega))
    | (go_at_call 77; refine (flatTexts_nil _).mono ?_; rintro e w4 ⟨rfl, n4⟩; have hk4 := hk3.below n4; have hq4 : Below w.heap.size w w4 := hq3.trans (n4.mono hq3.size); have cc5 := hk4.cells 5 (by omega) (by omega))
    | (go_at_call 78; refine (flatBytes_nil _).mono ?_; rintro e w5 ⟨rfl, n5⟩; have hk5 := hk4.below n5; have hq5 : Below w.heap.size w w5 := hq4.trans (n5.mono hq4.size); have cc6 := hk5.cells 6 (by omega) (by omega))
    | (go_at_call 79; refine (flatTruths_nil _).mono ?_; rintro e w6 ⟨rfl, n6⟩; have hk6 := hk5.below n6; have hq6 : Below w.heap.size w w6 := hq5.trans (n6.mono hq5.size); have cc7 := hk6.cells 7 (by omega) (by omega))
    | (go_at_call 80; refine (flatRefs_nil _).mono ?_; rintro e w7 ⟨rfl, n7⟩; have hk7 := hk6.below n7; have hq7 : Below w.heap.size w w7 := hq6.trans (n7.mono hq6.size); have hz7 := hq7.mono hB; have cc8 := hk7.cell8.1)
    | (go_at_call 81; refine (HFP.out _ hq7 hk7).mono ?_; rintro e w8 ⟨rfl, n8, o8⟩; have hk8 := hk7.others o8; have hq8 := hz7.trans n8; have cc9 := hk8.cells 9 (by omega) (by omega))
    | (go_at_call 82; refine (flatNodes_nil _).mono ?_; rintro e w9 ⟨rfl, n9⟩; have hk9 := hk8.below n9; have hq9 : Below B w w9 := hq8.trans (n9.mono (Nat.le_trans hB hq8.size)); have cc10 := hk9.cells 10 (by omega) (by omega))
    | (go_at_call 83; refine (flatBounds_nil _).mono ?_; rintro e w10 ⟨rfl, n10⟩; have hk10 := hk9.below n10; have hq10 : Below B w w10 := hq9.trans (n10.mono (Nat.le_trans hB hq9.size)); have cc11 := hk10.cells 11 (by omega) (by omega))
    | (go_at_call 84; refine (flatHandles_nil _).mono ?_; rintro e w11 ⟨rfl, n11⟩; have hk11 := hk10.below n11; have hq11 : Below B w w11 := hq10.trans (n11.mono (Nat.le_trans hB hq10.size)); have cc12 := hk11.cells 12 (by omega) (by omega))
    | (go_at_call 85; refine (flatRequests_nil _).mono ?_; rintro e w12 ⟨rfl, n12⟩; have hk12 := hk11.below n12; have hq12 : Below B w w12 := hq11.trans (n12.mono (Nat.le_trans hB hq11.size)); have cc13 := hk12.cells 13 (by omega) (by omega))
    | (go_at_call 86; refine (flatStats_nil _).mono ?_; rintro e w13 ⟨rfl, n13⟩; have hk13 := hk12.below n13; have hq13 : Below B w w13 := hq12.trans (n13.mono (Nat.le_trans hB hq12.size)); have cc14 := hk13.cells 14 (by omega) (by omega))
    | (go_at_call 87; refine (flatAnswers_nil _).mono ?_; rintro e w14 ⟨rfl, n14⟩; have hk14 := hk13.below n14; have hq14 : Below B w w14 := hq13.trans (n14.mono (Nat.le_trans hB hq13.size)); have cc15 := hk14.cells 15 (by omega) (by omega))
    | (go_at_call 88; refine (flatEntries_nil _).mono ?_; rintro e w15 ⟨rfl, n15⟩; have hk15 := hk14.below n15; have hq15 : Below B w w15 := hq14.trans (n15.mono (Nat.le_trans hB hq14.size)); have cc16 := hk15.cells 16 (by omega) (by omega))
    | (go_at_call 89; refine (flatScripts_nil _).mono ?_; rintro e w16 ⟨rfl, n16⟩; have hk16 := hk15.below n16; have hq16 : Below B w w16 := hq15.trans (n16.mono (Nat.le_trans hB hq15.size)); have cc17 := hk16.cells 17 (by omega) (by omega))
    | (go_at_call 90; refine (flatDones_nil _).mono ?_; rintro e w17 ⟨rfl, n17⟩; have hk17 := hk16.below n17; have hq17 : Below B w w17 := hq16.trans (n17.mono (Nat.le_trans hB hq16.size))))
  go_ret
  exact ⟨rfl, hq17⟩

theorem list_cur {w : World} {B k : Nat} {v : Value} {xs : List Value} (h : w.ownsRow B 26 1 v k xs) (hk : 0 < k) : ∃ L c cur, v = .slice (some ⟨L, 0, none⟩) k c ∧ w.heap[L]? = some (.cells cur 26 (0, 0)) ∧ ∀ j, j < k → cur[j]? = xs[j]? := by
  rcases h.2 with ⟨_, e⟩ | ⟨g, cap, cur, e, _, hh, _, _, _, ht⟩
  · omega
  · refine ⟨g, cap, cur, e, hh, fun j hj => ?_⟩
    rw [← ht, List.getElem?_take_of_lt (by omega)]
    simp

set_option maxRecDepth 100000 in
set_option maxHeartbeats 8000000 in
theorem apartpairs_all (w : World) (B S n c : Nat) (vs : Nat → Value) (ns : Nat → Nat) (hn0 : 0 < n) (hn : n ≤ 1000) (hc : ∀ k, k < n → w.cell? ⟨S, k, none⟩ = some (vs k)) (hS : S < w.heap.size)
    (hdis : ∀ i j, i < n → j < n → i ≠ j → ∀ g, (vs i).ownBlock = some g → (vs j).ownBlock ≠ some g) (hns : ∀ k, k < n → ns k ≤ 100000) (hB : B ≤ w.heap.size) (hrows : ∀ j, j < n → ∃ p, p.length = ns j ∧ PRow w B (vs j) p) :
    Calls Try.prog 41 #[.slice (some ⟨S, 0, none⟩) n c] w fun e w' => e = .returned (.bool true) ∧ Below B w w' := by
  obtain ⟨w1, hw1⟩ : ∃ w1, w1 = w.alloc (.cells #[.slice none 0 0, .slice none 0 0, .slice none 0 0, .slice none 0 0, .slice none 0 0, .slice none 0 0, .slice none 0 0, .slice none 0 0, .slice none 0 0, .slice none 0 0, .slice none 0 0, .slice none 0 0, .slice none 0 0, .slice none 0 0, .slice none 0 0, .slice none 0 0, .slice none 0 0, .slice none 0 0] 119) := ⟨_, rfl⟩
  have hB1 : Below w.heap.size w w1 := by rw [hw1]; exact (Below.refl _ _).alloc (Nat.le_refl _) _
  have hbk1 : BagAt w1 w.heap.size (.slice none 0 0) := by rw [hw1]; exact World.alloc_heap_new _ _
  have HF := Lib.hid (fun k (hk : k < n) => show ∃ a c, vs k = .slice a (ns k) c by
    obtain ⟨p, h1, h2⟩ := hrows k hk
    obtain ⟨a, c, e, _⟩ := prow_form2 h2 h1
    exact ⟨a, c, e⟩)
  have HC := Lib.hid hc
  have HR := Lib.hid (fun W (hb : Below w.heap.size w W) j (hj : j < n) => show ∃ p, p.length = ns j ∧ PRow W B (vs j) p by
    obtain ⟨p, h1, h2⟩ := hrows j hj
    exact ⟨p, h1, ownsRow_below h2 hb (Nat.le_refl _)⟩)
  have HD := Lib.hid hdis
  have HNS := Lib.hid hns
  have hst : w1.ownsRow w.heap.size 26 1 (.slice none 0 0) 0 ((List.range 0).map vs) := World.ownsRow_nil _ _ _ _
  clear hc hrows hdis hns
  go_enter Try.func41, Try.ntmps41
  go_wp2
  rw [← hw1]
  clear hw1
  go_loopw [4] (fun i wr => ∃ (k : Nat) (v : Value), k ≤ n ∧ i = .int .i64 k ∧ BagAt wr w.heap.size v ∧ wr.ownsRow w.heap.size 26 1 v k ((List.range k).map vs) ∧ Below w.heap.size w wr) (fun i _ => n - (intOf i).toNat)
  case atStart => exact ⟨0, _, Nat.zero_le _, rfl, hbk1, hst, hB1⟩
  case round =>
    clear hbk1 hst hB1
    obtain ⟨k, v, hk, rfl, hbk, hrow, hb⟩ := hrel
    by_cases hkn : k < n
    · obtain ⟨a, vc, hvk⟩ := HF.out k hkn
      have hcell := (hb.cell (p := ⟨S, k, none⟩) hS).trans (HC.out k hkn)
      rw [hvk] at hcell
      have HP := Lib.hid (putpairs_any wr w.heap.size w.heap.size v k _ hbk hrow (Nat.le_refl _) (by omega) a (ns k) vc)
      rw [← hvk, show (List.range k).map vs ++ [vs k] = (List.range (k + 1)).map vs from by rw [List.range_succ]; simp] at HP
      rw [hvk] at HP
      clear hvk hbk hrow
      go_wp2_with (go_at_call 58; refine HP.out.mono ?_; clear HP; rintro e w3 ⟨rfl, v', hbk3, hrow3, hb3⟩)
      go_roundw
      case rel => exact ⟨k + 1, v', by omega, by go_num, hbk3, hrow3, hb.trans hb3⟩
      case measure => simp [intOf]; omega
    · obtain rfl : n = k := by omega
      obtain ⟨L, lc, cur, rfl, hl, hcur⟩ := list_cur hrow hn0
      have HA := Lib.hid (apart_any wr B w.heap.size L n lc cur (0, 0) vs ns hbk ⟨fun j hj => by rw [hcur j hj]; simp [hj], HD.out, Nat.le_trans hB hb.size, hn, HNS.out⟩ hl (HR.out wr hb))
      clear hbk hrow hcur
      go_wp2_with (go_at_call 59; refine HA.out.mono ?_; rintro e w4 ⟨rfl, hb4⟩)
      go_ret
      exact ⟨rfl, (hb.mono hB).trans hb4⟩

end Go.Proofs.Ytegccicplcjcmaa
