/- Walk: Put of the reference model of a book. -/
import Derived.Test.YtgfhaldfjnepmaaBkR4
namespace Go.Proofs.Ytgfhaldfjnepmaa
open Go Go.RowKit Go.Shelf Go.Proofs
attribute [local go_sem] Oper.semAt_some

theorem len_del_le (ps : PS) (s : ByteArray) : (delP ps s).length ≤ ps.length := List.length_filter_le ..

theorem putE_big {K M : Nat} {ps : PS} {s v : ByteArray} (h : ¬ (s.size ≤ 16 ∧ v.size ≤ 32)) : putE K M ps s v = 2 ∧ putQ K M ps s v = ps := by
  have e : ¬ mayE s [v] = 0 := fun e => h ⟨(mayE_zero.1 e).1, (mayE_zero.1 e).2 v (by simp)⟩
  unfold putQ putE
  rw [if_neg e]
  exact ⟨rfl, rfl⟩

theorem putE_ok {K M : Nat} {ps : PS} {s v : ByteArray} (h1 : s.size ≤ 16) (h2 : v.size ≤ 32) : putE K M ps s v = (if K < (putP ps s v).length ∨ M < totP (putP ps s v) then 10 else 0) ∧ putQ K M ps s v = (if K < (putP ps s v).length ∨ M < totP (putP ps s v) then ps else putP ps s v) := by
  have e : mayE s [v] = 0 := mayE_zero.2 ⟨h1, by simpa using h2⟩
  unfold putQ putE
  rw [if_pos e]
  refine ⟨rfl, ?_⟩
  by_cases q : K < (putP ps s v).length ∨ M < totP (putP ps s v)
  · rw [if_pos q, if_pos q]; rfl
  · rw [if_neg q, if_neg q]; rfl

/-- What comes out of an operation of the reference model: the row that came in, or a new one. -/
def RefOut (w w' : World) (a : Option Addr) (cap : Nat) (ps qs : PS) (a' : Option Addr) (c' : Nat) : Prop :=
  PRow w' 0 (.slice a' qs.length c') qs ∧ ((a' = a ∧ c' = cap ∧ qs = ps) ∨ PRow w' w.heap.size (.slice a' qs.length c') qs)

theorem refout_same {w w' : World} {a : Option Addr} {cap : Nat} {ps : PS} {B : Nat} (h : PRow w B (.slice a ps.length cap) ps) (hb : Below w.heap.size w w') : RefOut w w' a cap ps ps a cap :=
  ⟨ownsRow_base (prow_below hb h) (Nat.zero_le _), .inl ⟨rfl, rfl, rfl⟩⟩

theorem refout_new {w w' : World} {a : Option Addr} {cap : Nat} {ps qs : PS} {a' : Option Addr} {c' : Nat} (h : PRow w' w.heap.size (.slice a' qs.length c') qs) : RefOut w w' a cap ps qs a' c' :=
  ⟨ownsRow_base h (Nat.zero_le _), .inr h⟩

theorem refbox_fr (w : World) (x y z : Value) : ∀ w', Below (w.heap.size + 1) (w.alloc (.cells #[x, y, z] 62)) w' → (w'.cell? ⟨w.heap.size, 0, none⟩ = some x ∧ w'.cell? ⟨w.heap.size, 1, none⟩ = some y ∧ w'.cell? ⟨w.heap.size, 2, none⟩ = some z) ∧ ∀ j, w'.frozen? ⟨w.heap.size, j, none⟩ = false := by
  intro w' hb
  have e := (hb.block w.heap.size (by omega)).trans (World.alloc_heap_new w (.cells #[x, y, z] 62))
  refine ⟨⟨?_, ?_, ?_⟩, fun j => ?_⟩ <;> simp [World.cell?, World.frozen?, e]

theorem ispairs_new (w : World) (s v : ByteArray) (h1 : s.size ≤ 1000) (h2 : v.size ≤ 1000) : IsPairs (w.alloc (.cells #[.string s, .string v] 57)) (some ⟨w.heap.size, 0, none⟩) 1 [(s, v)] := by
  refine ⟨rfl, by simpa using ⟨h1, h2⟩, .inr ⟨w.heap.size, 0, rfl, by simp, fun j p hp => ?_⟩⟩
  match j, hp with
  | 0, hp => simp at hp; subst hp; exact ⟨two_new w (.string s) (.string v) _ 0 _ rfl, two_new w (.string s) (.string v) _ 1 _ rfl⟩

theorem ispairs_ite {w : World} {g : Nat} {len cap : Nat} {ps : PS} (h : IsPairs w (some ⟨g, 0, none⟩) len ps) (hc : len ≤ cap) {n : Nat} (hn : n ≤ len) : IsPairs w (if cap = n then some ⟨g, 0, none⟩ else some ⟨g, n * 2, none⟩) (len - n) (ps.drop n) := by
  by_cases q : cap = n
  · rw [if_pos q]
    obtain rfl : len = n := by omega
    refine ⟨by simp [h.1], fun p hp => h.2.1 p (List.mem_of_mem_drop hp), .inl (by omega)⟩
  · rw [if_neg q]
    exact ispairs_drop0 h hn

/-- The cells of a reference model whose list was set. -/
theorem refset {w : World} {k : Nat} {x y z v : Value} (h0 : w.cell? ⟨k, 0, none⟩ = some x) (h1 : w.cell? ⟨k, 1, none⟩ = some y) (h2 : w.cell? ⟨k, 2, none⟩ = some z) :
    (w.setCell ⟨k, 0, none⟩ v).cell? ⟨k, 0, none⟩ = some v ∧ (w.setCell ⟨k, 0, none⟩ v).cell? ⟨k, 1, none⟩ = some y ∧ (w.setCell ⟨k, 0, none⟩ v).cell? ⟨k, 2, none⟩ = some z :=
  ⟨World.cell?_setCell_same _ _ _ h0, (World.cell?_setCell_other _ _ _ _ (by simp)).trans h1, (World.cell?_setCell_other _ _ _ _ (by simp)).trans h2⟩

/-- What the last steps of Put leave: the cell that goes out, set. -/
theorem below_out {w w' : World} {B k : Nat} (h : Below B w w') (hk : B ≤ k) (x y z : Value) : Below B w (((w'.setCell ⟨k, 0, none⟩ x).setCell ⟨k, 1, none⟩ y).setCell ⟨k, 2, none⟩ z) :=
  ((h.setCell (p := ⟨k, 0, none⟩) hk _).setCell (p := ⟨k, 1, none⟩) hk _).setCell (p := ⟨k, 2, none⟩) hk _

theorem own_out {w : World} {B n k : Nat} {e : TypeId} {v : Value} {xs : List Value} {size : Nat} (h : w.ownsRow B e size v n xs) (hk : k < B) (x y z : Value) : (((w.setCell ⟨k, 0, none⟩ x).setCell ⟨k, 1, none⟩ y).setCell ⟨k, 2, none⟩ z).ownsRow B e size v n xs :=
  own_set (own_set (own_set h hk) hk) hk

set_option maxRecDepth 100000 in
set_option maxHeartbeats 4000000 in
theorem refput_any {B : Nat} (a : Option Addr) (cap K M : Nat) (ps : PS) (w : World) (h : PRow w B (.slice a ps.length cap) ps) (hl : ps.length < 80000) (hs : SortedP ps) (hsm : ∀ p ∈ ps, p.1.size ≤ 16 ∧ p.2.size ≤ 32) (s v : ByteArray) (hs1 : s.size ≤ 140737488351232) (hv1 : v.size ≤ 140737488351232) :
    Calls Try.prog 66 #[.agg #[.slice a ps.length cap, .int .u64 K, .int .u64 M], .string s, .string v] w fun e w' => ∃ a' c', e = .returned (.tuple #[.agg #[.slice a' (putQ K M ps s v).length c', .int .u64 K, .int .u64 M], .int .i64 (putE K M ps s v)]) ∧ RefOut w w' a cap ps (putQ K M ps s v) a' c' ∧ Below w.heap.size w w' := by
  obtain ⟨w1, hw1⟩ : ∃ w1, w1 = (w.alloc (.cells #[.slice a ps.length cap, .int .u64 K, .int .u64 M] 62)).alloc (.cells #[.slice none 0 0, .int .u64 0, .int .u64 0] 62) := ⟨_, rfl⟩
  have hB1 : Below w.heap.size w w1 := by rw [hw1]; exact ((Below.refl _ _).alloc (Nat.le_refl _) _).alloc (by simp) _
  have hsz1 : w1.heap.size = w.heap.size + 1 + 1 := by rw [hw1]; simp
  have HC : Hid (∀ w', Below w1.heap.size w1 w' → (w'.cell? ⟨w.heap.size, 0, none⟩ = some (.slice a ps.length cap) ∧ w'.cell? ⟨w.heap.size, 1, none⟩ = some (.int .u64 K) ∧ w'.cell? ⟨w.heap.size, 2, none⟩ = some (.int .u64 M)) ∧ w'.cell? ⟨w.heap.size + 1, 0, none⟩ = some (.slice none 0 0) ∧ w'.cell? ⟨w.heap.size + 1, 1, none⟩ = some (.int .u64 0) ∧ w'.cell? ⟨w.heap.size + 1, 2, none⟩ = some (.int .u64 0) ∧ (∀ j, w'.frozen? ⟨w.heap.size, j, none⟩ = false) ∧ (∀ j, w'.frozen? ⟨w.heap.size + 1, j, none⟩ = false)) := Lib.hid (by rw [hw1]; exact refbox2 w _ _ _ _ _ _)
  have HR := Lib.hid h
  by_cases h16 : s.size ≤ 16
  · have i16 : ¬ (16 : Int) < (s.size : Int) := by omega
    by_cases h32 : v.size ≤ 32
    · have i32 : ¬ (32 : Int) < (v.size : Int) := by omega
      have hW := refwithout_any a cap K M ps w1 (prow_below hB1 h) (by omega) hs (fun p hp => by have := hsm p hp; omega) s
      have hDl := len_del_le ps s
      have HPD := Lib.hid (pos_del ps s)
      have hND := posP_le (delP ps s) s
      rw [pos_del] at hND
      have HE := Lib.hid (put_ref hs s v)
      rw [pos_del] at HE
      have HDS := Lib.hid (fun p (hp : p ∈ delP ps s) => show p.1.size ≤ 1000 ∧ p.2.size ≤ 1000 by have := hsm p (mem_delP.1 hp).1; omega)
      have HDO := Lib.hid (sorted_del hs s)
      have HES := Lib.hid (small_put hsm h16 h32)
      have HEL := Lib.hid (show (putP ps s v).length ≤ ps.length + 1 by
        cases hg : getP ps s with
        | none => rw [(len_put_absent hs v hg).1]; omega
        | some u => rw [(len_put_present hs v hg).1]; omega)
      obtain ⟨q1, q2⟩ := putE_ok (K := K) (M := M) (ps := ps) h16 h32
      rw [q1, q2]
      clear q1 q2
      generalize delP ps s = D at *
      generalize posP ps s = N at *
      generalize putP ps s v = E at *
      have HW := Lib.hid hW
      clear hW h
      rw [hw1] at HW
      by_cases q1 : K < E.length
      · have j1 : (K : Int) < ((E.length : Nat) : Int) := by omega
        rw [if_pos (Or.inl q1), if_pos (Or.inl q1)]
        go_enter Try.func66, Try.ntmps66
        have HEl : Hid (N + 1 + (D.length - N) = E.length) := Lib.hid (by rw [← HE.out]; simp; omega)
        have i1 : (N : Int) ≤ (D.length : Int) := by omega
        go_wp2_with (first
          | (go_at_call 87; refine HW.out.mono ?_; clear HW; rintro e w3 ⟨g3, k3, rfl, hx3, hn3⟩; rw [← hw1] at hn3 hx3; obtain ⟨W4, hW4⟩ : ∃ W4, W4 = w3.alloc (.cells #[.slice (some ⟨g3, 0, none⟩) D.length k3, .int .u64 K, .int .u64 M] 62) := ⟨_, rfl⟩; have hsz4 : W4.heap.size = w3.heap.size + 1 := (by rw [hW4]; simp); have hb4 : Below w1.heap.size w1 W4 := (by rw [hW4]; exact hn3.alloc hn3.size _); have HX := Lib.hid (refbox_fr w3 (.slice (some ⟨g3, 0, none⟩) D.length k3) (.int .u64 K) (.int .u64 M)); rw [← hW4, ← hsz4] at HX; have hx4 : PRow W4 w1.heap.size (.slice (some ⟨g3, 0, none⟩) D.length k3) D := prow_below (by rw [hW4]; exact (Below.refl _ _).alloc (Nat.le_refl _) _) hx3; obtain ⟨hi4, hk3, hk3b, _⟩ := prow_in hx4 HDS.out; have HI4 := Lib.hid hi4; have HA4 := Lib.hid (refat_any (some ⟨g3, 0, none⟩) D.length k3 K M D W4 hi4 (by omega) HDO.out s); rw [HPD.out] at HA4; rw [hW4] at HA4; obtain ⟨⟨c0, c1, c2⟩, _⟩ := HC.out _ hb4; clear hx3 hx4 hi4; have HI2 := Lib.hid (fun W (hb : Below W4.heap.size W4 W) => ispairs_ite (HI4.out.below hb) hk3 hND))
          | (go_at_call 70; refine HA4.out.mono ?_; rintro e w5 ⟨rfl, hn5⟩; rw [← hW4] at hn5; obtain ⟨⟨x0, x1, x2⟩, xf⟩ := HX.out _ hn5; have hb5' := hn5.alloc hn5.size (.cells #[] 57); obtain ⟨⟨l0, l1, l2⟩, _⟩ := HX.out _ hb5')
          | (at_builtin; refine wpList_appP _ rfl _ _ rfl W4.heap.size w5.heap.size 0 0 [] rfl (pown_zero w5 _ hn5.size) _ _ _ (D.take N) rfl (by simp) (ispairs_take (HI4.out.below hb5') hND) (by simp; have := hn5.size; omega) (by omega) ?_; intro g6 k6 w6 hown6 hgrow6; have hb6 : Below W4.heap.size W4 w6 := hb5'.grown hgrow6 (by simp; have := hn5.size; omega) (fun k e => by cases e; exact hn5.size); rw [Nat.zero_add, List.nil_append] at hown6; have hb6' := hb6.alloc hb6.size (.cells #[.string s, .string v] 57); have hown6' := ownsRow_below hown6 ((Below.refl _ w6).alloc (Nat.le_refl _) (.cells #[.string s, .string v] 57)) (Nat.le_refl _); obtain ⟨⟨x0, x1, x2⟩, xf⟩ := HX.out _ hb6'; clear hb5')
          | (at_builtin; refine wpList_appP _ rfl _ _ rfl W4.heap.size g6 N k6 (D.take N) rfl hown6' _ _ _ [(s, v)] rfl (by simp) (ispairs_new w6 s v (by omega) (by omega)) (by simp; have := hb6.size; omega) (by omega) ?_; intro g7 k7 w7 hown7 hgrow7; have hb7 : Below W4.heap.size W4 w7 := hb6'.grown hgrow7 (by simp; have := hb6.size; omega) (fun k e => by cases e; exact (hown6.lt _ rfl).1); obtain ⟨⟨x0, x1, x2⟩, xf⟩ := HX.out _ hb7; clear hown6' hb6')
          | (at_builtin; refine wpList_appP _ rfl _ _ rfl W4.heap.size g7 (N + 1) k7 _ rfl hown7 _ _ _ (D.drop N) rfl (by split <;> simp) (HI2.out _ hb7) hb7.size (by omega) ?_; intro g9 k9 w9 hown9 hgrow9; have hb9 := hb7.grown hgrow9 hb7.size (fun k e => by cases e; exact (hown7.lt _ rfl).1); rw [HEl.out] at hown9 ⊢; obtain ⟨⟨x0, x1, x2⟩, xf⟩ := HX.out _ hb9))
        all_goals
          have hsz3 := hn3.size
          have hb9' := hb4.trans (hb9.mono (by omega))
          have hb10 : Below w1.heap.size w1 (w9.setCell ⟨w3.heap.size, 0, none⟩ (.slice (some ⟨g9, 0, none⟩) E.length k9)) := hb9'.setCell (p := ⟨w3.heap.size, 0, none⟩) hsz3 _
          have hE10 := own_set (k := w3.heap.size) (off := 0) (u := .slice (some ⟨g9, 0, none⟩) E.length k9) hown9 (by omega)
          rw [HE.out] at hE10
          obtain ⟨y0, y1, y2⟩ := refset (v := .slice (some ⟨g9, 0, none⟩) E.length k9) x0 x1 x2
          generalize w9.setCell ⟨w3.heap.size, 0, none⟩ (.slice (some ⟨g9, 0, none⟩) E.length k9) = w10 at hb10 hE10 y0 y1 y2 ⊢
          obtain ⟨⟨c0, c1, c2⟩, _⟩ := HC.out _ hb10
          have hel := HEL.out
          have hE10' : PRow w10 W4.heap.size (.slice (some ⟨g9, 0, none⟩) E.length k9) E := hE10
          have HI10 := Lib.hid (prow_in hE10' (fun p hp => by have := HES.out p hp; omega)).1
          have HK := Lib.hid (fun W (_ : Below w10.heap.size w10 W) => refkeys_any (some ⟨g9, 0, none⟩) E.length k9 K M W (by omega))
          have HY := Lib.hid (fun W (hb : Below w10.heap.size w10 W) => refbytes_any (some ⟨g9, 0, none⟩) E.length k9 K M E W (HI10.out.below hb) (by omega) HES.out)
          have d0 := fun dd os => cell_regrown c0 dd os
          have d1 := fun dd os => cell_regrown c1 dd os
          have d2 := fun dd os => cell_regrown c2 dd os
          have e0 := fun dd os => cell_regrown y0 dd os
          have e1 := fun dd os => cell_regrown y1 dd os
          have e2 := fun dd os => cell_regrown y2 dd os
          clear hn5 hb6 hown6 hgrow6 hb7 hown7 hgrow7 hgrow9 hown9 hb9 HI2 HI4 HX HDS HDO hk3b hE10
          refine wp_region_quiet_below (by kernel_rfl) (by kernel_rfl) ?_
          repeat (go_big_quiet_step (first
            | (go_at_call 68; exact Calls.regrown_of (HK.out _ (below_regrown _ _ _)))
            | (go_at_call 69; exact Calls.regrown_of (HY.out _ (below_regrown _ _ _)))))
          refine wpQuiet_nil ?_
          intro _ hw'
          obtain ⟨⟨dq, osq⟩, rfl⟩ := hw'
          have hg8 := below_regrown w10 dq osq
          clear d0 d1 d2 e0 e1 e2
          generalize Sort.grow (redrawn w10 dq) osq = w11 at hg8 ⊢
          have hb11 := hb10.trans (hg8.mono hb10.size)
          obtain ⟨⟨c0, c1, c2⟩, r0, r1, r2, f0, f1⟩ := HC.out _ hb11
          go_wp2
          have hbf := hB1.trans (below_out (k := w.heap.size + 1) (hb11.mono (B' := w.heap.size) (by omega)) (by omega) (.slice a ps.length cap) (.int .u64 K) (.int .u64 M))
          refine bodyPost_ret (v := .tuple #[.agg #[.slice a ps.length cap, .int .u64 K, .int .u64 M], .int .i64 10]) ?_ rfl ⟨a, cap, rfl, refout_same HR.out hbf, hbf⟩
          rw [results_cell_tmp rfl]
          go_simp

      · have j1 : decide ((K : Int) < ((E.length : Nat) : Int)) = false := decide_eq_false (by omega)
        by_cases q2 : M < totP E
        · have j2 : (M : Int) < ((totP E : Nat) : Int) := by omega
          rw [if_pos (Or.inr q2), if_pos (Or.inr q2)]
          go_enter Try.func66, Try.ntmps66
          have HEl : Hid (N + 1 + (D.length - N) = E.length) := Lib.hid (by rw [← HE.out]; simp; omega)
          have i1 : (N : Int) ≤ (D.length : Int) := by omega
          go_wp2_with (first
            | (go_at_call 87; refine HW.out.mono ?_; clear HW; rintro e w3 ⟨g3, k3, rfl, hx3, hn3⟩; rw [← hw1] at hn3 hx3; obtain ⟨W4, hW4⟩ : ∃ W4, W4 = w3.alloc (.cells #[.slice (some ⟨g3, 0, none⟩) D.length k3, .int .u64 K, .int .u64 M] 62) := ⟨_, rfl⟩; have hsz4 : W4.heap.size = w3.heap.size + 1 := (by rw [hW4]; simp); have hb4 : Below w1.heap.size w1 W4 := (by rw [hW4]; exact hn3.alloc hn3.size _); have HX := Lib.hid (refbox_fr w3 (.slice (some ⟨g3, 0, none⟩) D.length k3) (.int .u64 K) (.int .u64 M)); rw [← hW4, ← hsz4] at HX; have hx4 : PRow W4 w1.heap.size (.slice (some ⟨g3, 0, none⟩) D.length k3) D := prow_below (by rw [hW4]; exact (Below.refl _ _).alloc (Nat.le_refl _) _) hx3; obtain ⟨hi4, hk3, hk3b, _⟩ := prow_in hx4 HDS.out; have HI4 := Lib.hid hi4; have HA4 := Lib.hid (refat_any (some ⟨g3, 0, none⟩) D.length k3 K M D W4 hi4 (by omega) HDO.out s); rw [HPD.out] at HA4; rw [hW4] at HA4; obtain ⟨⟨c0, c1, c2⟩, _⟩ := HC.out _ hb4; clear hx3 hx4 hi4; have HI2 := Lib.hid (fun W (hb : Below W4.heap.size W4 W) => ispairs_ite (HI4.out.below hb) hk3 hND))
            | (go_at_call 70; refine HA4.out.mono ?_; rintro e w5 ⟨rfl, hn5⟩; rw [← hW4] at hn5; obtain ⟨⟨x0, x1, x2⟩, xf⟩ := HX.out _ hn5; have hb5' := hn5.alloc hn5.size (.cells #[] 57); obtain ⟨⟨l0, l1, l2⟩, _⟩ := HX.out _ hb5')
            | (at_builtin; refine wpList_appP _ rfl _ _ rfl W4.heap.size w5.heap.size 0 0 [] rfl (pown_zero w5 _ hn5.size) _ _ _ (D.take N) rfl (by simp) (ispairs_take (HI4.out.below hb5') hND) (by simp; have := hn5.size; omega) (by omega) ?_; intro g6 k6 w6 hown6 hgrow6; have hb6 : Below W4.heap.size W4 w6 := hb5'.grown hgrow6 (by simp; have := hn5.size; omega) (fun k e => by cases e; exact hn5.size); rw [Nat.zero_add, List.nil_append] at hown6; have hb6' := hb6.alloc hb6.size (.cells #[.string s, .string v] 57); have hown6' := ownsRow_below hown6 ((Below.refl _ w6).alloc (Nat.le_refl _) (.cells #[.string s, .string v] 57)) (Nat.le_refl _); obtain ⟨⟨x0, x1, x2⟩, xf⟩ := HX.out _ hb6'; clear hb5')
            | (at_builtin; refine wpList_appP _ rfl _ _ rfl W4.heap.size g6 N k6 (D.take N) rfl hown6' _ _ _ [(s, v)] rfl (by simp) (ispairs_new w6 s v (by omega) (by omega)) (by simp; have := hb6.size; omega) (by omega) ?_; intro g7 k7 w7 hown7 hgrow7; have hb7 : Below W4.heap.size W4 w7 := hb6'.grown hgrow7 (by simp; have := hb6.size; omega) (fun k e => by cases e; exact (hown6.lt _ rfl).1); obtain ⟨⟨x0, x1, x2⟩, xf⟩ := HX.out _ hb7; clear hown6' hb6')
            | (at_builtin; refine wpList_appP _ rfl _ _ rfl W4.heap.size g7 (N + 1) k7 _ rfl hown7 _ _ _ (D.drop N) rfl (by split <;> simp) (HI2.out _ hb7) hb7.size (by omega) ?_; intro g9 k9 w9 hown9 hgrow9; have hb9 := hb7.grown hgrow9 hb7.size (fun k e => by cases e; exact (hown7.lt _ rfl).1); rw [HEl.out] at hown9 ⊢; obtain ⟨⟨x0, x1, x2⟩, xf⟩ := HX.out _ hb9))
          all_goals
            have hsz3 := hn3.size
            have hb9' := hb4.trans (hb9.mono (by omega))
            have hb10 : Below w1.heap.size w1 (w9.setCell ⟨w3.heap.size, 0, none⟩ (.slice (some ⟨g9, 0, none⟩) E.length k9)) := hb9'.setCell (p := ⟨w3.heap.size, 0, none⟩) hsz3 _
            have hE10 := own_set (k := w3.heap.size) (off := 0) (u := .slice (some ⟨g9, 0, none⟩) E.length k9) hown9 (by omega)
            rw [HE.out] at hE10
            obtain ⟨y0, y1, y2⟩ := refset (v := .slice (some ⟨g9, 0, none⟩) E.length k9) x0 x1 x2
            generalize w9.setCell ⟨w3.heap.size, 0, none⟩ (.slice (some ⟨g9, 0, none⟩) E.length k9) = w10 at hb10 hE10 y0 y1 y2 ⊢
            obtain ⟨⟨c0, c1, c2⟩, _⟩ := HC.out _ hb10
            have hel := HEL.out
            have hE10' : PRow w10 W4.heap.size (.slice (some ⟨g9, 0, none⟩) E.length k9) E := hE10
            have HI10 := Lib.hid (prow_in hE10' (fun p hp => by have := HES.out p hp; omega)).1
            have HK := Lib.hid (fun W (_ : Below w10.heap.size w10 W) => refkeys_any (some ⟨g9, 0, none⟩) E.length k9 K M W (by omega))
            have HY := Lib.hid (fun W (hb : Below w10.heap.size w10 W) => refbytes_any (some ⟨g9, 0, none⟩) E.length k9 K M E W (HI10.out.below hb) (by omega) HES.out)
            have d0 := fun dd os => cell_regrown c0 dd os
            have d1 := fun dd os => cell_regrown c1 dd os
            have d2 := fun dd os => cell_regrown c2 dd os
            have e0 := fun dd os => cell_regrown y0 dd os
            have e1 := fun dd os => cell_regrown y1 dd os
            have e2 := fun dd os => cell_regrown y2 dd os
            clear hn5 hb6 hown6 hgrow6 hb7 hown7 hgrow7 hgrow9 hown9 hb9 HI2 HI4 HX HDS HDO hk3b hE10
            refine wp_region_quiet_below (by kernel_rfl) (by kernel_rfl) ?_
            repeat (go_big_quiet_step (first
              | (go_at_call 68; exact Calls.regrown_of (HK.out _ (below_regrown _ _ _)))
              | (go_at_call 69; exact Calls.regrown_of (HY.out _ (below_regrown _ _ _)))))
            refine wpQuiet_nil ?_
            intro _ hw'
            obtain ⟨⟨dq, osq⟩, rfl⟩ := hw'
            have hg8 := below_regrown w10 dq osq
            clear d0 d1 d2 e0 e1 e2
            generalize Sort.grow (redrawn w10 dq) osq = w11 at hg8 ⊢
            have hb11 := hb10.trans (hg8.mono hb10.size)
            obtain ⟨⟨c0, c1, c2⟩, r0, r1, r2, f0, f1⟩ := HC.out _ hb11
            go_wp2
            have hbf := hB1.trans (below_out (k := w.heap.size + 1) (hb11.mono (B' := w.heap.size) (by omega)) (by omega) (.slice a ps.length cap) (.int .u64 K) (.int .u64 M))
            refine bodyPost_ret (v := .tuple #[.agg #[.slice a ps.length cap, .int .u64 K, .int .u64 M], .int .i64 10]) ?_ rfl ⟨a, cap, rfl, refout_same HR.out hbf, hbf⟩
            rw [results_cell_tmp rfl]
            go_simp

        · have j2 : ¬ (M : Int) < ((totP E : Nat) : Int) := by omega
          rw [if_neg (by omega), if_neg (by omega)]
          go_enter Try.func66, Try.ntmps66
          have HEl : Hid (N + 1 + (D.length - N) = E.length) := Lib.hid (by rw [← HE.out]; simp; omega)
          have i1 : (N : Int) ≤ (D.length : Int) := by omega
          go_wp2_with (first
            | (go_at_call 87; refine HW.out.mono ?_; clear HW; rintro e w3 ⟨g3, k3, rfl, hx3, hn3⟩; rw [← hw1] at hn3 hx3; obtain ⟨W4, hW4⟩ : ∃ W4, W4 = w3.alloc (.cells #[.slice (some ⟨g3, 0, none⟩) D.length k3, .int .u64 K, .int .u64 M] 62) := ⟨_, rfl⟩; have hsz4 : W4.heap.size = w3.heap.size + 1 := (by rw [hW4]; simp); have hb4 : Below w1.heap.size w1 W4 := (by rw [hW4]; exact hn3.alloc hn3.size _); have HX := Lib.hid (refbox_fr w3 (.slice (some ⟨g3, 0, none⟩) D.length k3) (.int .u64 K) (.int .u64 M)); rw [← hW4, ← hsz4] at HX; have hx4 : PRow W4 w1.heap.size (.slice (some ⟨g3, 0, none⟩) D.length k3) D := prow_below (by rw [hW4]; exact (Below.refl _ _).alloc (Nat.le_refl _) _) hx3; obtain ⟨hi4, hk3, hk3b, _⟩ := prow_in hx4 HDS.out; have HI4 := Lib.hid hi4; have HA4 := Lib.hid (refat_any (some ⟨g3, 0, none⟩) D.length k3 K M D W4 hi4 (by omega) HDO.out s); rw [HPD.out] at HA4; rw [hW4] at HA4; obtain ⟨⟨c0, c1, c2⟩, _⟩ := HC.out _ hb4; clear hx3 hx4 hi4; have HI2 := Lib.hid (fun W (hb : Below W4.heap.size W4 W) => ispairs_ite (HI4.out.below hb) hk3 hND))
            | (go_at_call 70; refine HA4.out.mono ?_; rintro e w5 ⟨rfl, hn5⟩; rw [← hW4] at hn5; obtain ⟨⟨x0, x1, x2⟩, xf⟩ := HX.out _ hn5; have hb5' := hn5.alloc hn5.size (.cells #[] 57); obtain ⟨⟨l0, l1, l2⟩, _⟩ := HX.out _ hb5')
            | (at_builtin; refine wpList_appP _ rfl _ _ rfl W4.heap.size w5.heap.size 0 0 [] rfl (pown_zero w5 _ hn5.size) _ _ _ (D.take N) rfl (by simp) (ispairs_take (HI4.out.below hb5') hND) (by simp; have := hn5.size; omega) (by omega) ?_; intro g6 k6 w6 hown6 hgrow6; have hb6 : Below W4.heap.size W4 w6 := hb5'.grown hgrow6 (by simp; have := hn5.size; omega) (fun k e => by cases e; exact hn5.size); rw [Nat.zero_add, List.nil_append] at hown6; have hb6' := hb6.alloc hb6.size (.cells #[.string s, .string v] 57); have hown6' := ownsRow_below hown6 ((Below.refl _ w6).alloc (Nat.le_refl _) (.cells #[.string s, .string v] 57)) (Nat.le_refl _); obtain ⟨⟨x0, x1, x2⟩, xf⟩ := HX.out _ hb6'; clear hb5')
            | (at_builtin; refine wpList_appP _ rfl _ _ rfl W4.heap.size g6 N k6 (D.take N) rfl hown6' _ _ _ [(s, v)] rfl (by simp) (ispairs_new w6 s v (by omega) (by omega)) (by simp; have := hb6.size; omega) (by omega) ?_; intro g7 k7 w7 hown7 hgrow7; have hb7 : Below W4.heap.size W4 w7 := hb6'.grown hgrow7 (by simp; have := hb6.size; omega) (fun k e => by cases e; exact (hown6.lt _ rfl).1); obtain ⟨⟨x0, x1, x2⟩, xf⟩ := HX.out _ hb7; clear hown6' hb6')
            | (at_builtin; refine wpList_appP _ rfl _ _ rfl W4.heap.size g7 (N + 1) k7 _ rfl hown7 _ _ _ (D.drop N) rfl (by split <;> simp) (HI2.out _ hb7) hb7.size (by omega) ?_; intro g9 k9 w9 hown9 hgrow9; have hb9 := hb7.grown hgrow9 hb7.size (fun k e => by cases e; exact (hown7.lt _ rfl).1); rw [HEl.out] at hown9 ⊢; obtain ⟨⟨x0, x1, x2⟩, xf⟩ := HX.out _ hb9))
          all_goals
            have hsz3 := hn3.size
            have hb9' := hb4.trans (hb9.mono (by omega))
            have hb10 : Below w1.heap.size w1 (w9.setCell ⟨w3.heap.size, 0, none⟩ (.slice (some ⟨g9, 0, none⟩) E.length k9)) := hb9'.setCell (p := ⟨w3.heap.size, 0, none⟩) hsz3 _
            have hE10 := own_set (k := w3.heap.size) (off := 0) (u := .slice (some ⟨g9, 0, none⟩) E.length k9) hown9 (by omega)
            rw [HE.out] at hE10
            obtain ⟨y0, y1, y2⟩ := refset (v := .slice (some ⟨g9, 0, none⟩) E.length k9) x0 x1 x2
            generalize w9.setCell ⟨w3.heap.size, 0, none⟩ (.slice (some ⟨g9, 0, none⟩) E.length k9) = w10 at hb10 hE10 y0 y1 y2 ⊢
            obtain ⟨⟨c0, c1, c2⟩, _⟩ := HC.out _ hb10
            have hel := HEL.out
            have hE10' : PRow w10 W4.heap.size (.slice (some ⟨g9, 0, none⟩) E.length k9) E := hE10
            have HI10 := Lib.hid (prow_in hE10' (fun p hp => by have := HES.out p hp; omega)).1
            have HK := Lib.hid (fun W (_ : Below w10.heap.size w10 W) => refkeys_any (some ⟨g9, 0, none⟩) E.length k9 K M W (by omega))
            have HY := Lib.hid (fun W (hb : Below w10.heap.size w10 W) => refbytes_any (some ⟨g9, 0, none⟩) E.length k9 K M E W (HI10.out.below hb) (by omega) HES.out)
            have d0 := fun dd os => cell_regrown c0 dd os
            have d1 := fun dd os => cell_regrown c1 dd os
            have d2 := fun dd os => cell_regrown c2 dd os
            have e0 := fun dd os => cell_regrown y0 dd os
            have e1 := fun dd os => cell_regrown y1 dd os
            have e2 := fun dd os => cell_regrown y2 dd os
            clear hn5 hb6 hown6 hgrow6 hb7 hown7 hgrow7 hgrow9 hown9 hb9 HI2 HI4 HX HDS HDO hk3b hE10
            refine wp_region_quiet_below (by kernel_rfl) (by kernel_rfl) ?_
            repeat (go_big_quiet_step (first
              | (go_at_call 68; exact Calls.regrown_of (HK.out _ (below_regrown _ _ _)))
              | (go_at_call 69; exact Calls.regrown_of (HY.out _ (below_regrown _ _ _)))))
            refine wpQuiet_nil ?_
            intro _ hw'
            obtain ⟨⟨dq, osq⟩, rfl⟩ := hw'
            have hg8 := below_regrown w10 dq osq
            clear d0 d1 d2 e0 e1 e2
            generalize Sort.grow (redrawn w10 dq) osq = w11 at hg8 ⊢
            have hb11 := hb10.trans (hg8.mono hb10.size)
            obtain ⟨⟨c0, c1, c2⟩, r0, r1, r2, f0, f1⟩ := HC.out _ hb11
            obtain ⟨y0', y1', y2'⟩ : w11.cell? ⟨w3.heap.size, 0, none⟩ = some (.slice (some ⟨g9, 0, none⟩) E.length k9) ∧ w11.cell? ⟨w3.heap.size, 1, none⟩ = some (.int .u64 K) ∧ w11.cell? ⟨w3.heap.size, 2, none⟩ = some (.int .u64 M) := ⟨cell_below hg8 y0, cell_below hg8 y1, cell_below hg8 y2⟩
            go_wp2
            have hbf := hB1.trans (below_out (k := w.heap.size + 1) (hb11.mono (B' := w.heap.size) (by omega)) (by omega) (.slice (some ⟨g9, 0, none⟩) E.length k9) (.int .u64 K) (.int .u64 M))
            refine bodyPost_ret (v := .tuple #[.agg #[.slice (some ⟨g9, 0, none⟩) E.length k9, .int .u64 K, .int .u64 M], .int .i64 0]) ?_ rfl ⟨_, k9, rfl, refout_new (ownsRow_base (own_out (prow_below hg8 hE10') (by omega) _ _ _) (by omega)), hbf⟩
            rw [results_cell_tmp rfl]
            go_simp
    · have i32 : (32 : Int) < (v.size : Int) := by omega
      obtain ⟨q1, q2⟩ := putE_big (K := K) (M := M) (ps := ps) (s := s) (v := v) (by omega)
      rw [q1, q2]
      clear h q1 q2
      go_enter Try.func66, Try.ntmps66
      go_wp2
      have hbf := ((Below.refl w.heap.size w).alloc (Nat.le_refl _) (.cells #[.slice a ps.length cap, .int .u64 K, .int .u64 M] 62)).alloc (by simp) (.cells #[.slice a ps.length cap, .int .u64 K, .int .u64 M] 62)
      refine bodyPost_ret (v := .tuple #[.agg #[.slice a ps.length cap, .int .u64 K, .int .u64 M], .int .i64 2]) ?_ rfl ⟨a, cap, rfl, refout_same HR.out hbf, hbf⟩
      rw [results_cell_tmp rfl]
      go_simp
  · have i16 : (16 : Int) < (s.size : Int) := by omega
    obtain ⟨q1, q2⟩ := putE_big (K := K) (M := M) (ps := ps) (s := s) (v := v) (by omega)
    rw [q1, q2]
    clear h q1 q2
    go_enter Try.func66, Try.ntmps66
    go_wp2
    have hbf := ((Below.refl w.heap.size w).alloc (Nat.le_refl _) (.cells #[.slice a ps.length cap, .int .u64 K, .int .u64 M] 62)).alloc (by simp) (.cells #[.slice a ps.length cap, .int .u64 K, .int .u64 M] 62)
    refine bodyPost_ret (v := .tuple #[.agg #[.slice a ps.length cap, .int .u64 K, .int .u64 M], .int .i64 2]) ?_ rfl ⟨a, cap, rfl, refout_same HR.out hbf, hbf⟩
    rw [results_cell_tmp rfl]
    go_simp
end Go.Proofs.Ytgfhaldfjnepmaa
