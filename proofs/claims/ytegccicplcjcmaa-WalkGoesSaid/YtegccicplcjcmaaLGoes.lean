/- Walk: the law WalkGoes returns true. -/
import Derived.Test.YtegccicplcjcmaaWG1
import Derived.Test.YtegccicplcjcmaaRoundReg
namespace Go.Proofs.Ytegccicplcjcmaa
open Go Go.RowKit Go.Shelf Go.Proofs Go.Sort
attribute [local go_sem] Oper.semAt_some

theorem goes0 (w : World) (x : Value) : OneBlk ((w.alloc (.cells #[x] 45)).alloc (.cells #[.bool false] 4)) w.heap.size 45 x ∧ OneBlk ((w.alloc (.cells #[x] 45)).alloc (.cells #[.bool false] 4)) (w.heap.size + 1) 4 (.bool false) ∧
    Below w.heap.size w ((w.alloc (.cells #[x] 45)).alloc (.cells #[.bool false] 4)) ∧ ((w.alloc (.cells #[x] 45)).alloc (.cells #[.bool false] 4)).heap.size = w.heap.size + 1 + 1 := by
  refine ⟨key1 _ _ _ _ (OneBlk.new _ _ _), ?_, ((Below.refl _ _).alloc (Nat.le_refl _) _).alloc (by simp) _, by simp⟩
  have := OneBlk.new (w.alloc (.cells #[x] 45)) 4 (.bool false)
  rw [World.size_alloc] at this
  exact this

theorem OneBlk.alloc {w : World} {k : Nat} {t : TypeId} {x : Value} (h : OneBlk w k t x) (o : Obj) : OneBlk (w.alloc o) k t x := key1 _ _ _ _ h

theorem nodefer {ops : Array Oper} (h : ops.all (fun o => match o.op with | .defer _ => false | _ => true) = true) : ∀ (i : Nat) (o : Oper), ops[i]? = some o → ∀ c, o.op ≠ .defer c := by
  intro i o ho c e
  rw [Array.all_eq_true] at h
  obtain ⟨hi, e2⟩ := Array.getElem?_eq_some_iff.1 ho
  have := h i hi
  rw [e2, e] at this
  cases this

theorem chain7 (w : World) (o0 o1 o2 o3 o4 o5 o6 : Obj) (W : World) (hW : W = ((((((w.alloc o0).alloc o1).alloc o2).alloc o3).alloc o4).alloc o5).alloc o6) :
    W.heap[w.heap.size]? = some o0 ∧ W.heap[w.heap.size + 1]? = some o1 ∧ W.heap[w.heap.size + 1 + 1]? = some o2 ∧ W.heap[w.heap.size + 1 + 1 + 1]? = some o3 ∧ W.heap[w.heap.size + 1 + 1 + 1 + 1]? = some o4 ∧ W.heap[w.heap.size + 1 + 1 + 1 + 1 + 1]? = some o5 ∧ W.heap[w.heap.size + 1 + 1 + 1 + 1 + 1 + 1]? = some o6 ∧
      Below w.heap.size w W ∧ W.heap.size = w.heap.size + 1 + 1 + 1 + 1 + 1 + 1 + 1 := by
  subst hW
  refine ⟨?_, ?_, ?_, ?_, ?_, ?_, ?_, ?_, by simp⟩
  · exact key1 _ _ _ _ (key1 _ _ _ _ (key1 _ _ _ _ (key1 _ _ _ _ (key1 _ _ _ _ (key1 _ _ _ _ (World.alloc_heap_new _ _))))))
  · have := World.alloc_heap_new (w.alloc o0) o1
    simp only [World.size_alloc] at this
    exact key1 _ _ _ _ (key1 _ _ _ _ (key1 _ _ _ _ (key1 _ _ _ _ (key1 _ _ _ _ this))))
  · have := World.alloc_heap_new ((w.alloc o0).alloc o1) o2
    simp only [World.size_alloc] at this
    exact key1 _ _ _ _ (key1 _ _ _ _ (key1 _ _ _ _ (key1 _ _ _ _ this)))
  · have := World.alloc_heap_new (((w.alloc o0).alloc o1).alloc o2) o3
    simp only [World.size_alloc] at this
    exact key1 _ _ _ _ (key1 _ _ _ _ (key1 _ _ _ _ this))
  · have := World.alloc_heap_new ((((w.alloc o0).alloc o1).alloc o2).alloc o3) o4
    simp only [World.size_alloc] at this
    exact key1 _ _ _ _ (key1 _ _ _ _ this)
  · have := World.alloc_heap_new (((((w.alloc o0).alloc o1).alloc o2).alloc o3).alloc o4) o5
    simp only [World.size_alloc] at this
    exact key1 _ _ _ _ this
  · have := World.alloc_heap_new ((((((w.alloc o0).alloc o1).alloc o2).alloc o3).alloc o4).alloc o5) o6
    simp only [World.size_alloc] at this
    exact this
  · refine (((((((Below.refl _ _).alloc (Nat.le_refl _) _).alloc ?_ _).alloc ?_ _).alloc ?_ _).alloc ?_ _).alloc ?_ _).alloc ?_ _ <;> simp <;> omega

/-- Between two rounds. -/
def GoJ (w : World) (A M b m : Nat) (a1 : Option Addr) (dl dc : Nat) (lp : Obj) (k : Nat) (f : ByteArray) (W : World) : Prop :=
  ∃ (v : Value) (Q : PS) (ra : Option Addr) (rc : Nat), GoB w A M b m a1 dl dc lp k f v Q ra rc W ∧ Q.length ≤ 50 + k ∧ k + aheadP Q f + (50 - k) ≤ 100

/-- Behind the last. -/
def GoE (w : World) (A M b m : Nat) (a1 : Option Addr) (dl dc : Nat) (lp : Obj) (W : World) : Prop :=
  ∃ (k : Nat) (f : ByteArray) (v : Value) (Q : PS) (ra : Option Addr) (rc : Nat), GoB w A M b m a1 dl dc lp k f v Q ra rc W ∧ Q.length ≤ 150 ∧ Q[posP Q f]? = none

set_option linter.unusedVariables false in
set_option linter.unusedSimpArgs false in
set_option maxRecDepth 100000 in
set_option maxHeartbeats 8000000 in
theorem law_WalkGoes (a : Option Addr) (len cap : Nat) (ds : List Deed) (a1 : Option Addr) (dl dc : Nat) (du : List Deed) (hdc : dl ≤ dc) (hdc2 : dc ≤ 9223372036854775807) (s : ByteArray) (hs : s.size ≤ 140737488351232) (w : World) (hds : IsDeeds w a len ds) (hdu : IsDeeds w a1 dl du) :
    Calls Try.prog 4 #[.slice a len cap, .slice a1 dl dc, .string s] w fun e w' => e = .returned (.bool true) ∧ Below w.heap.size w w' := by
  have hmf : ∀ (fn : Fn) (first cap : Array Value) (w : World), (Instr.makeFunc fn first cap).run Try.prog w = .ok (.func fn first cap) w := fun _ _ _ _ => rfl
  by_cases h1 : 200 < s.size
  · have i1 : (200 : Int) < (s.size : Int) := by omega
    refine (callsIn_wide (n := 9)).1 ?_
    refine callsIn_of_wp_marks Try.func4 rfl trivial ?_ rfl
    simp only [Try.ntmps4, List.size_toArray, List.length_cons, List.length_nil, Nat.reduceAdd, Nat.reduceSub, Array.replicate_succ, Array.replicate_zero, List.push_toArray, List.append_toArray, List.nil_append, List.cons_append]
    gi_wp2_with (first | (refine ⟨trivial, ?_⟩; gi_at_call 14; refine (callsIn_wide.2 (awake_any _)).mono ?_; rintro e w3 ⟨rfl, hb3⟩; obtain ⟨g1, g2, g3, g4⟩ := goes0 w (.slice a1 dl dc); have hr3 := g2.below (by omega) hb3; have c3 := hr3.cell; have f3 := hr3.frozen 0; have hb3' := g3.trans (hb3.mono g3.size); clear hb3))
    have hb4 := hb3'.grown (grownBy_setCell' w3 (w.heap.size + 1) (.bool true)) hb3'.size (fun j e => by cases e; omega)
    have q4 := (hr3.set (.bool true)).cell
    refine ⟨.bool true, ?_, rfl, hb4⟩
    simp [results, Try.f4, go_sem, q4]
  have i1 : ¬ (200 : Int) < (s.size : Int) := by omega
  have HB := Lib.hid (fun (W : World) (b m : Nat) (v : Value) (hA : ArtAt W (w.heap.size + 1 + 1) b m v []) (hb : Below w.heap.size w W) (hs : w.heap.size + 1 + 1 ≤ W.heap.size) => both_any W hA (by decide) hs none 0 (prow_nil _ _) w (by omega) hb a len cap ds hds)
  refine (callsIn_wide (n := 9)).1 ?_
  refine callsIn_of_wp_marks Try.func4 rfl trivial ?_ rfl
  simp only [Try.ntmps4, List.size_toArray, List.length_cons, List.length_nil, Nat.reduceAdd, Nat.reduceSub, Array.replicate_succ, Array.replicate_zero, List.push_toArray, List.append_toArray, List.nil_append, List.cons_append]
  gi_wp2_with (first
    | (refine ⟨trivial, ?_⟩; gi_at_call 8; refine (callsIn_wide.2 (anew_any _)).mono ?_; rintro e w1 ⟨b, m, rfl, hA1, hb1⟩; obtain ⟨g1, g2, g3, g4⟩ := goes0 w (.slice a1 dl dc); have hd1 := g1.below (by omega) hb1; have hr1 := g2.below (by omega) hb1; have hl1 := g3.trans (hb1.mono g3.size); rw [g4] at hA1; have hs1 := hb1.size; rw [g4] at hs1; clear hb1 g1 g2 g3 g4
       have hbA := Below.alloc (Below.refl w1.heap.size w1) (Nat.le_refl _) (.cells #[.pointer (some ⟨b, 0, none⟩)] 24)
       have hA1' := hA1.below hbA
       have hd1' := hd1.alloc (.cells #[.pointer (some ⟨b, 0, none⟩)] 24)
       have hr1' := hr1.alloc (.cells #[.pointer (some ⟨b, 0, none⟩)] 24)
       have ha1' := OneBlk.new w1 24 (.pointer (some ⟨b, 0, none⟩))
       have HB2 := HB.out (w1.alloc (.cells #[.pointer (some ⟨b, 0, none⟩)] 24)) b m _ hA1' (hl1.trans (hbA.mono hl1.size)) (by simp; omega)
       have HLA := Lib.hid hA1.lt
       have HL1 := Lib.hid (hl1.trans (hbA.mono hl1.size))
       have HB3 := Lib.hid HB2
       have HA1 := Lib.hid hA1'
       have HD1 := Lib.hid hd1'
       have HR1 := Lib.hid hr1'
       have HO1 := Lib.hid ha1'
       clear hA1 hbA hA1' hd1 hd1' hr1 hr1' ha1' HB2 hl1)
    | (refine ⟨trivial, ?_⟩; gi_at_call 15; refine (callsIn_wide.2 HB3.out).mono ?_; rintro e w2 ⟨a2, c2, v2, rfl, hp2, hA2, hT2⟩
       have hO2 := HO1.out.turned HA1.out hT2 (by decide) (by decide)
       have HD2 := Lib.hid (HD1.out.turned HA1.out hT2 (by decide) (by decide))
       have HR2 := Lib.hid (HR1.out.turned HA1.out hT2 (by decide) (by decide))
       have kA := fun o1 o2 o3 => (((hO2.alloc o1).alloc o2).alloc o3).cell
       have HO2 := Lib.hid hO2
       have HP2 := Lib.hid hp2
       have HA2 := Lib.hid hA2
       have HT2 := Lib.hid hT2
       clear hO2 hp2 hA2 hT2)
    | (refine ⟨trivial, ?_⟩; gi_at_call 13; refine (callsIn_wide.2 (goes_any _ _ _)).mono ?_; rintro e w3 ⟨rfl, rfl⟩))
  refine rangeFunc_open rfl (by omega) (gf := 60) (lb := #[.pointer (some ⟨w2.heap.size + 1 + 1 + 1, 0, none⟩), .pointer (some ⟨w2.heap.size + 1 + 1 + 1 + 1, 0, none⟩)]) rfl trivial (enters_of Try.func60 (by kernel_rfl) rfl) ?_
  intro fn hfn
  try simp only [World.size_alloc]
  generalize hrec : recOf fn _ _ _ _ _ = rec
  have hst : ∀ st pe, (rec st pe).state = st := by intro st pe; rw [← hrec]; rfl
  have hup : ∀ st pe st' pe', ({ rec st pe with state := st', pending := pe' } : Loop) = rec st' pe' := by intro st pe st' pe'; rw [← hrec]; rfl
  have hup1 : ({ rec .ready none with state := .busy } : Loop) = rec .busy none := by rw [← hrec]; rfl
  obtain ⟨S0, hS0⟩ : ∃ S0, ((((((w2.alloc (Obj.cells #[Value.slice a2 (List.length (bothQ [] ds)) c2] 28)).alloc (Obj.cells #[Value.string s] 9)).alloc (Obj.cells #[Value.int IntKind.i64 0] 3)).alloc (Obj.cells #[Value.pointer (some { block := b, off := 0 })] 82)).alloc (Obj.cells #[Value.string s] 9)).alloc (.deferred (some []))).alloc (.loop (rec .ready none)) = S0 := ⟨_, rfl⟩
  obtain ⟨c0, c1', c2', c3, c4, c5, c6, hbS, hszS⟩ := chain7 w2 _ _ _ _ _ _ _ S0 hS0.symm
  rw [hS0]
  clear hS0
  have hQl := bothQ_len (ps := []) List.Pairwise.nil ds
  simp only [List.length_nil, Nat.zero_add] at hQl
  have hsM := HT2.out.size
  rw [World.size_alloc] at hsM
  have hl3 := HA2.out.row.lt
  have s3 : S0.cell? ⟨w2.heap.size + 1 + 1 + 1, 0, none⟩ = some (Value.pointer (some ⟨b, 0, none⟩)) := by simp [World.cell?, c3]
  have s4 : S0.cell? ⟨w2.heap.size + 1 + 1 + 1 + 1, 0, none⟩ = some (Value.string s) := by simp [World.cell?, c4]
  have hlow2 : Below w.heap.size w w2 := HL1.out.trans ((Turned.below HA1.out HT2.out (by simp; omega)).mono (by omega))
  have HJ0 : Hid (GoJ w w1.heap.size w2.heap.size b m a1 dl dc (.loop (rec .ready none)) 0 s (S0.alloc (.cells #[.pointer (some ⟨b, 0, none⟩)] 82))) := by
    refine Lib.hid ?_
    have hal := Below.alloc (Below.refl S0.heap.size S0) (Nat.le_refl _) (Obj.cells #[Value.pointer (some ⟨b, 0, none⟩)] 82)
    have ht := World.alloc_heap_new S0 (Obj.cells #[Value.pointer (some ⟨b, 0, none⟩)] 82)
    rw [hszS] at ht
    have hbT := hbS.trans (hal.mono (by omega))
    have hlt := HLA.out
    refine ⟨v2, bothQ [] ds, a2, c2, ⟨HA2.out.below hbT, fun g hg => ?_, ⟨hlt.1, hlt.2, by omega⟩, HD2.out.below (by have := HD2.out.lt; omega) hbT, HR2.out.below (by have := HR2.out.lt; omega) hbT, HO2.out.below (by omega) hbT, (hal.block _ (by omega)).trans c0, prow_below hbT HP2.out, (hal.block _ (by omega)).trans c1', (hal.block _ (by omega)).trans c2', (hal.block _ (by omega)).trans c5, (hal.block _ (by omega)).trans c6, ht, hlow2.trans (hbT.mono hlow2.size), ⟨_, rfl⟩⟩, by omega, ?_⟩
    · have hg2 := (hl3 g hg).2
      rcases HT2.out.2 with e | e | ⟨n, e, hn⟩
      · rw [e] at hg; cases hg
      · rw [e] at hg; cases hg
      · rw [e] at hg
        simp only [Option.some.injEq] at hg
        rw [World.size_alloc] at hn
        omega
    · have : aheadP (bothQ [] ds) s ≤ (bothQ [] ds).length := List.countP_le_length
      omega
  have HDU := Lib.hid hdu
  have hdl := hdu.1
  clear HB HL1 HB3 HA1 HD1 HR1 HO1 kA HO2 HD2 HR2 HP2 HA2 HT2 hl3 hbS hlow2 c0 c1' c2' c3 c4 c5 c6 hds hdu
  obtain ⟨hbA, hmA⟩ := HLA.out
  clear HLA
  generalize bothQ [] ds = Q0 at *
  generalize w1.heap.size = A at *
  generalize w2.heap.size = M at *
  refine (pairs1_in (9 - 1) (by omega) (M + 1 + 1 + 1 + 1 + 1 + 1) 100 (M + 1 + 1 + 1 + 1 + 1 + 1 + 1) (M + 1 + 1 + 1) (M + 1 + 1 + 1 + 1) (.pointer (some ⟨b, 0, none⟩)) (some ⟨b, 0, none⟩) rfl s S0 hszS
    (GoJ w A M b m a1 dl dc (.loop (rec .ready none))) (GoE w A M b m a1 dl dc (.loop (rec .ready none))) s3 s4 HJ0.out ?jt ?ja (by omega)).mono ?post
  case jt =>
    rintro k f W ⟨v, Q, ra, rc, h, h2, h3⟩
    exact ⟨by omega, by have := h.tou; simp [World.cell?, this]⟩
  case ja =>
    clear HJ0 s3 s4 hszS
    rintro k f W ⟨v, Q, ra, rc, h, hQl, hcnt⟩
    have hso := h.art.sorted
    have hsm := h.art.small
    refine ⟨Q[posP Q f]?, fun p hp => (hsm p (List.mem_of_getElem? hp)).1, ?_, ?_, ?_⟩
    · rw [← afromV_hit]
      exact afrom_any W h.art (by omega) f
    · intro hnone W' hb
      exact ⟨k, f, v, Q, ra, rc, h.below hb, by omega, hnone⟩
    · intro p hp W' hb
      have h' := h.below hb
      have hpl := (List.getElem?_eq_some_iff.1 hp).1
      have hps := hsm p (List.mem_of_getElem? hp)
      have hah := ahead_pos hso f
      have hah2 := ahead_pos hso (p.1 ++ ⟨#[0]⟩)
      rw [pos_after hso hp] at hah2
      clear h hb
      have hl' := h'.lop
      rw [← hrec] at hl'
      refine yield_open hl' rfl hfn ?_
      clear hl'
      gi_wp2
      obtain ⟨X1, hX1⟩ : ∃ X1, W'.alloc (Obj.cells #[Value.string p.fst, Value.string p.snd] 48) = X1 := ⟨_, rfl⟩
      have hal : Below W'.heap.size W' X1 := by rw [← hX1]; exact (Below.refl _ _).alloc (Nat.le_refl _) _
      have hp1 : X1.heap[W'.heap.size]? = some (Obj.cells #[Value.string p.fst, Value.string p.snd] 48) := by rw [← hX1]; exact World.alloc_heap_new _ _
      have h1 := h'.below hal
      have hPlt := h'.lt
      have hsP : X1.heap.size = W'.heap.size + 1 := by rw [← hX1]; simp
      rw [hX1]
      clear hX1 hal h'
      generalize W'.heap.size = P at hp1 hPlt hsP ⊢
      have hpb := run_beginRound (P := Try.prog) h1.lop (hst _ _)
      rw [hup1] at hpb
      refine ⟨_, hpb, ?_⟩
      clear hpb
      have h2 := h1.put (rec .busy none)
      have hp2 : (X1.putObj (M + 1 + 1 + 1 + 1 + 1 + 1) (.loop (rec .busy none))).heap[P]? = some (Obj.cells #[Value.string p.fst, Value.string p.snd] 48) := (World.putObj_heap_other (by omega)).trans hp1
      clear h1 hp1 hsP
      generalize X1.putObj (M + 1 + 1 + 1 + 1 + 1 + 1) (.loop (rec .busy none)) = X2 at h2 hp2 ⊢
      have q0 := h2.mbk.cell
      have q1 := h2.bnd.cell
      have hsm' : ∀ p ∈ Q, p.1.size ≤ 1000 ∧ p.2.size ≤ 1000 := fun p hp => by have := hsm p hp; omega
      have hcall := refnext_any ra Q.length rc Q X2 (prow_in h2.row hsm').1 (by omega) hso f
      unfold refnextV at hcall
      rw [hp] at hcall
      simp only [pairV] at hcall
      have HC := Lib.hid hcall
      have HB := Lib.hid h2
      have HP2 := Lib.hid hp2
      clear h2 hp2 hcall
      obtain ⟨p1, p2⟩ := p
      simp only at HC HP2 hps hah2
      have ik : decide ((200 : Int) < (k : Int)) = false := decide_eq_false (by omega)
      have e1 : (p1.toList == p1.toList) = true := by simp
      have e2 : (p2.toList == p2.toList) = true := by simp
      by_cases hk1 : k < dl
      · have ia : decide ((k : Int) < (dl : Int)) = true := decide_eq_true (by omega)
        by_cases hk2 : k < 50
        · have ib : decide ((k : Int) < 50) = true := decide_eq_true (by omega)
          gi_wp2_with (first
            | (refine ⟨trivial, ?_⟩; gi_at_call 16; refine (callsIn_wide.2 HC.out).mono ?_; rintro e X3 ⟨rfl, hn3⟩
               have h3 := HB.out.below hn3
               have hp3 : X3.heap[P]? = some (Obj.cells #[Value.string p1, Value.string p2] 48) := (hn3.block P (Array.getElem?_eq_some_iff.1 HP2.out).1).trans HP2.out
               have x0 := fun o => (show (X3.alloc o).cell? ⟨P, 0, none⟩ = some (.string p1) by have := key1 _ _ o _ hp3; simp [World.cell?, this])
               have x1 := fun o => (show (X3.alloc o).cell? ⟨P, 1, none⟩ = some (.string p2) by have := key1 _ _ o _ hp3; simp [World.cell?, this])
               have x2 := fun o => (h3.cnt.alloc o).cell
               have x2f := fun o => (h3.cnt.alloc o).frozen 0
               have x3 := fun o => (h3.bnd.alloc o).frozen 0
               have x4 := fun o => (h3.bnd.alloc o).cell
               have x5 := fun o => (h3.dur.alloc o).cell
               have HB3 := Lib.hid h3
               clear h3 hp3))
          have h5 := (HB3.out.below (Below.alloc (Below.refl X3.heap.size X3) (Nat.le_refl _) (Obj.cells #[Value.string p1, Value.string p2] 48))).bound (p1 ++ ⟨#[0]⟩)
          generalize (X3.alloc (Obj.cells #[Value.string p1, Value.string p2] 48)).setCell ⟨M + 1, 0, none⟩ (.string (p1 ++ ⟨#[0]⟩)) = X5 at h5 ⊢
          have h6 := h5.below (Below.refl X5.heap.size X5).drew
          clear h5 x0 x1 x2 x2f x3 x4 x5 HB3 HB HP2 HC
          obtain ⟨g, off, d, rfl, hd, _⟩ := deed_cells_at HDU.out hk1
          have HD := Lib.hid (both_any X5.drew h6.art (by omega) (by have := h6.lt; have := h6.art.hb; have := h6.num; omega) ra rc h6.row w (by omega) h6.low (some ⟨g, off + k * 4, none⟩) 1 (dc - k) [d] (HDU.out.one hd))
          rw [bothQ_one] at HD
          have hal5 := bothS_len hso d
          have hah3 := ahead_both hso d (p1 ++ ⟨#[0]⟩)
          clear hd
          generalize bothS Q d = Q5 at HD hal5 hah3
          have HSX := Lib.hid (fun (v' : Value) (W : World) (ht : Turned b m v X5.drew v' W) => And.intro (h6.abk.turned h6.art ht (by decide) (by decide)).cell (And.intro (h6.dur.turned h6.art ht (by decide) (by decide)).cell (h6.cnt.turned h6.art ht (by decide) (by decide)).cell))
          have HMX := Lib.hid (fun (v' : Value) (W : World) (ht : Turned b m v X5.drew v' W) => h6.mbk.turned h6.art ht (by decide) (by decide))
          have hst := HSX.out v X5.drew (Turned.refl ..)
          have m6 := h6.mbk.cell
          have HG := Lib.hid h6
          clear h6
          refine wpIn_round_held (S := fun w' => w'.cell? ⟨A, 0, none⟩ = some (.pointer (some ⟨b, 0, none⟩)) ∧ w'.cell? ⟨w.heap.size, 0, none⟩ = some (.slice (some ⟨g, off, none⟩) dl dc) ∧ w'.cell? ⟨M + 1 + 1, 0, none⟩ = some (.int .i64 (k : Int))) (by kernel_rfl) (nodefer (by kernel_rfl)) ?_
          refine wpAnyH_take (i := 0) (v := .pointer (some ⟨b, 0, none⟩)) rfl (by kernel_rfl) (by kernel_rfl) (by kernel_rfl) (fun _ _ _ h => h) (Or.inl ⟨by rfl, ?_⟩) hst ?_
          · intro w' hSw
            obtain ⟨l0, l1, l2⟩ := hSw
            go_simp
          try simp only [Act.put, List.setIfInBounds_toArray, List.set_cons_zero, List.set_cons_succ]
          refine wpAnyH_take (i := 2) (v := .slice (some ⟨g, off, none⟩) dl dc) rfl (by kernel_rfl) (by kernel_rfl) (by kernel_rfl) (fun _ _ _ h => h) (Or.inl ⟨by rfl, ?_⟩) hst ?_
          · intro w' hSw
            obtain ⟨l0, l1, l2⟩ := hSw
            go_simp
          try simp only [Act.put, List.setIfInBounds_toArray, List.set_cons_zero, List.set_cons_succ]
          refine wpAnyH_take (i := 3) (v := .int .i64 (k : Int)) rfl (by kernel_rfl) (by kernel_rfl) (by kernel_rfl) (fun _ _ _ h => h) (Or.inl ⟨by rfl, ?_⟩) hst ?_
          · intro w' hSw
            obtain ⟨l0, l1, l2⟩ := hSw
            go_simp
          try simp only [Act.put, List.setIfInBounds_toArray, List.set_cons_zero, List.set_cons_succ]
          refine wpAnyH_take (i := 4) (v := .int .i64 (k : Int)) rfl (by kernel_rfl) (by kernel_rfl) (by kernel_rfl) (fun _ _ _ h => h) (Or.inl ⟨by rfl, ?_⟩) hst ?_
          · intro w' hSw
            obtain ⟨l0, l1, l2⟩ := hSw
            go_simp
          try simp only [Act.put, List.setIfInBounds_toArray, List.set_cons_zero, List.set_cons_succ]
          refine wpAnyH_take (i := 5) (v := .int .i64 ((k : Int) + 1)) rfl (by kernel_rfl) (by kernel_rfl) (by kernel_rfl) (fun _ _ _ h => h) (Or.inl ⟨by rfl, ?_⟩) hst ?_
          · intro w' hSw
            obtain ⟨l0, l1, l2⟩ := hSw
            go_simp
            rw [IntKind.wrap_i64]
            omega
          try simp only [Act.put, List.setIfInBounds_toArray, List.set_cons_zero, List.set_cons_succ]
          refine wpAnyH_take (i := 6) (v := .slice (some ⟨g, off + k * 4, none⟩) 1 (dc - k)) rfl (by kernel_rfl) (by kernel_rfl) (by kernel_rfl) (fun _ _ _ h => h) (Or.inl ⟨by rfl, ?_⟩) hst ?_
          · intro w' hSw
            obtain ⟨l0, l1, l2⟩ := hSw
            go_simp
            rw [if_pos (show (0 : Int) ≤ (k : Int) + 1 ∧ (k : Int) + 1 ≤ (dc : Int) by omega), if_neg (show ¬ dc = k by omega)]
          try simp only [Act.put, List.setIfInBounds_toArray, List.set_cons_zero, List.set_cons_succ]
          refine wpAnyH_ready (rs := [1]) (by kernel_rfl) (by simp) ?_
          refine AllReadyH.cons (o := _) rfl (fun Kx hKx => ?_) AllReadyH.nil
          go_simp
          refine hKx.out _ _ hst (fun _ => ?_)
          clear hKx Kx
          try simp only [Act.put, List.setIfInBounds_toArray, List.set_cons_zero, List.set_cons_succ]
          refine wpAnyH_ready (rs := [7]) (by kernel_rfl) (by simp) ?_
          refine AllReadyH.cons (o := _) rfl (fun Kx hKx => ?_) AllReadyH.nil
          go_simp
          go_at_call 15
          refine HD.out.mono ?_
          rintro e X6 ⟨a6, c6, v6, rfl, p6, k6, t6⟩
          have hst6 := HSX.out _ _ t6
          have hm6 := HMX.out _ _ t6
          have m7 := hm6.cell
          have m7f := hm6.frozen 0
          try simp only
          refine hKx.out _ _ hst6 (fun _ => ?_)
          clear hKx Kx
          try simp only [Act.put, List.setIfInBounds_toArray, List.set_cons_zero, List.set_cons_succ]
          have h10 := HG.out.does k6 t6 p6
          refine wpAnyH_ready (rs := [8]) (by kernel_rfl) (by simp) ?_
          refine AllReadyH.cons (o := _) rfl (fun Kx hKx => ?_) AllReadyH.nil
          go_simp
          refine hKx.out _ _ ⟨h10.abk.cell, h10.dur.cell, h10.cnt.cell⟩ (fun _ => ?_)
          clear hKx Kx
          try simp only [Act.put, List.setIfInBounds_toArray, List.set_cons_zero, List.set_cons_succ]
          refine wpAnyH_done (by kernel_rfl) ?_ _
          clear hst hst6 hm6 m7 m7f k6 t6 p6 m6
          generalize X6.setCell ⟨M, 0, none⟩ (.slice a6 Q5.length c6) = X7 at h10 ⊢
          have i9 := h10.cnt.cell
          have if9 := h10.cnt.frozen 0
          gi_wp2
          have hX := h10.count ((k : Int) + 1) (k + 1) (by omega)
          have hend := hX.lop
          have hendr := run_endRound (P := Try.prog) none hend
          rw [hup] at hendr
          exact ⟨_, _, hendr, .inl ⟨rfl, by omega, _, _, _, _, hX.put _, by omega, by omega⟩⟩
        · have ib : decide ((k : Int) < 50) = false := decide_eq_false (by omega)
          gi_wp2_with (first
            | (refine ⟨trivial, ?_⟩; gi_at_call 16; refine (callsIn_wide.2 HC.out).mono ?_; rintro e X3 ⟨rfl, hn3⟩
               have h3 := HB.out.below hn3
               have hp3 : X3.heap[P]? = some (Obj.cells #[Value.string p1, Value.string p2] 48) := (hn3.block P (Array.getElem?_eq_some_iff.1 HP2.out).1).trans HP2.out
               have x0 := fun o => (show (X3.alloc o).cell? ⟨P, 0, none⟩ = some (.string p1) by have := key1 _ _ o _ hp3; simp [World.cell?, this])
               have x1 := fun o => (show (X3.alloc o).cell? ⟨P, 1, none⟩ = some (.string p2) by have := key1 _ _ o _ hp3; simp [World.cell?, this])
               have x2 := fun o => (h3.cnt.alloc o).cell
               have x2f := fun o => (h3.cnt.alloc o).frozen 0
               have x3 := fun o => (h3.bnd.alloc o).frozen 0
               have x4 := fun o => (h3.bnd.alloc o).cell
               have x5 := fun o => (h3.dur.alloc o).cell
               have HB3 := Lib.hid h3
               clear h3 hp3))
          have hX := ((HB3.out.below (Below.alloc (Below.refl X3.heap.size X3) (Nat.le_refl _) (Obj.cells #[Value.string p1, Value.string p2] 48))).bound (p1 ++ ⟨#[0]⟩)).count ((k : Int) + 1) (k + 1) (by omega)
          have hend := hX.lop
          have hendr := run_endRound (P := Try.prog) none hend
          rw [hup] at hendr
          exact ⟨_, _, hendr, .inl ⟨rfl, by omega, _, _, _, _, hX.put _, by omega, by omega⟩⟩
      · have ia : decide ((k : Int) < (dl : Int)) = false := decide_eq_false (by omega)
        gi_wp2_with (first
          | (refine ⟨trivial, ?_⟩; gi_at_call 16; refine (callsIn_wide.2 HC.out).mono ?_; rintro e X3 ⟨rfl, hn3⟩
             have h3 := HB.out.below hn3
             have hp3 : X3.heap[P]? = some (Obj.cells #[Value.string p1, Value.string p2] 48) := (hn3.block P (Array.getElem?_eq_some_iff.1 HP2.out).1).trans HP2.out
             have x0 := fun o => (show (X3.alloc o).cell? ⟨P, 0, none⟩ = some (.string p1) by have := key1 _ _ o _ hp3; simp [World.cell?, this])
             have x1 := fun o => (show (X3.alloc o).cell? ⟨P, 1, none⟩ = some (.string p2) by have := key1 _ _ o _ hp3; simp [World.cell?, this])
             have x2 := fun o => (h3.cnt.alloc o).cell
             have x2f := fun o => (h3.cnt.alloc o).frozen 0
             have x3 := fun o => (h3.bnd.alloc o).frozen 0
             have x4 := fun o => (h3.bnd.alloc o).cell
             have x5 := fun o => (h3.dur.alloc o).cell
             have HB3 := Lib.hid h3
             clear h3 hp3))
        have hX := ((HB3.out.below (Below.alloc (Below.refl X3.heap.size X3) (Nat.le_refl _) (Obj.cells #[Value.string p1, Value.string p2] 48))).bound (p1 ++ ⟨#[0]⟩)).count ((k : Int) + 1) (k + 1) (by omega)
        have hend := hX.lop
        have hendr := run_endRound (P := Try.prog) none hend
        rw [hup] at hendr
        exact ⟨_, _, hendr, .inl ⟨rfl, by omega, _, _, _, _, hX.put _, by omega, by omega⟩⟩
  case post =>
    clear HJ0 s3 s4 hszS
    rintro e W' ⟨⟨v0, rfl⟩, k, f, v, Q, ra, rc, h, hQl, hnone⟩
    have hrun : (Instr.endLoop (M + 1 + 1 + 1 + 1 + 1 + 1)).run Try.prog W' = .ok none (W'.putObj (M + 1 + 1 + 1 + 1 + 1 + 1) (.loop (rec .exhausted none))) := by
      have hl := h.lop
      rw [← hrec] at hl ⊢
      exact run_endLoop hl (by simp [recOf])
    refine ⟨none, _, hrun, ?_⟩
    have h2 := h.put (rec .exhausted none)
    clear h hrun
    generalize W'.putObj (M + 1 + 1 + 1 + 1 + 1 + 1) (.loop (rec .exhausted none)) = W4 at h2 ⊢
    have hso := h2.art.sorted
    have hsm := h2.art.small
    have q0 := h2.mbk.cell
    have q1 := h2.bnd.cell
    have hsm' : ∀ p ∈ Q, p.1.size ≤ 1000 ∧ p.2.size ≤ 1000 := fun p hp => by have := hsm p hp; omega
    have hcall := refnext_any ra Q.length rc Q W4 (prow_in h2.row hsm').1 (by omega) hso f
    unfold refnextV at hcall
    rw [hnone] at hcall
    simp only [pairV] at hcall
    have HC := Lib.hid hcall
    have HB := Lib.hid h2
    clear h2 hcall hso hsm hsm'
    gi_wp2_with (first
      | (refine ⟨trivial, ?_⟩; gi_at_call 16; refine (callsIn_wide.2 HC.out).mono ?_; rintro e X3 ⟨rfl, hn3⟩
         have HB3 := Lib.hid (HB.out.below (hn3.trans ((Below.alloc (Below.refl X3.heap.size X3) (Nat.le_refl _) (Obj.cells #[Value.string ⟨#[]⟩, Value.string ⟨#[]⟩] 48)).mono hn3.size))))
      | (refine ⟨trivial, ?_⟩; gi_at_call 14; refine (callsIn_wide.2 (awake_any _)).mono ?_; rintro e X5 ⟨rfl, hn5⟩
         have h5 := HB3.out.below hn5
         have r0 := h5.res.cell
         have r1 := h5.res.frozen 0
         have HB5 := Lib.hid h5
         clear h5))
    have hlt5 := HB5.out.lt
    have hD := ((Below.heap_setCell _ _ _ _ (by show M + 1 + 1 + 1 + 1 + 1 ≠ w.heap.size + 1; have := HB5.out.num; have := HB5.out.art.hb; omega)).trans HB5.out.dfr : (X5.setCell ⟨w.heap.size + 1, 0, none⟩ (.bool true)).heap[M + 1 + 1 + 1 + 1 + 1]? = _)
    have hg4 := grownBy_setCell' X5 (w.heap.size + 1) (.bool true)
    have hb5 := HB5.out.res.set (.bool true)
    have hlow := HB5.out.low.grown hg4 HB5.out.low.size (fun j e => by cases e; omega)
    have hMN : w.heap.size ≤ M := by have := HB5.out.num; have := HB5.out.art.hb; omega
    generalize X5.setCell ⟨w.heap.size + 1, 0, none⟩ (.bool true) = X6 at hD hb5 hlow ⊢
    have hg6 := grownBy_putObj' X6 (M + 1 + 1 + 1 + 1 + 1) (.deferred none)
    have q9 := (boxed_putNon hb5 (.deferred none) hD rfl).cell
    refine ⟨by simp, .inl ⟨_, _, rfl, run_takeDeferred hD, ?_⟩⟩
    refine ⟨.bool true, ?_, rfl, hlow.grown hg6 hlow.size (fun j e => by cases e; omega)⟩
    simp [results, Try.f4, go_sem, q9]

end Go.Proofs.Ytegccicplcjcmaa
