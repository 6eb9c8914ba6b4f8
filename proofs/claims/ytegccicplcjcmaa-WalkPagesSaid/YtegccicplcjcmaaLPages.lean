/- Walk: the law WalkPages returns true. -/
import Derived.Test.YtegccicplcjcmaaWPg1
import Derived.Test.YtegccicplcjcmaaRoundReg
import Derived.Deep.CutBlock
import Derived.Deep.CutRange
namespace Go.Proofs.Ytegccicplcjcmaa
open Go Go.RowKit Go.Shelf Go.Proofs Go.Sort
attribute [local go_sem] Oper.semAt_some

set_option linter.unusedVariables false in
set_option linter.unusedSimpArgs false in
set_option maxRecDepth 100000 in
set_option maxHeartbeats 8000000 in
theorem law_WalkPages (a : Option Addr) (len cap : Nat) (ds : List Deed) (x : Int) (hx : -9223372036854775808 ≤ x ∧ x ≤ 9223372036854775807) (w : World) (hds : IsDeeds w a len ds) :
    Calls Try.prog 7 #[.slice a len cap, .int .i64 x] w fun e w' => e = .returned (.bool true) ∧ Below w.heap.size w w' := by
  have hmf : ∀ (fn : Fn) (first cap : Array Value) (w : World), (Instr.makeFunc fn first cap).run Try.prog w = .ok (.func fn first cap) w := fun _ _ _ _ => rfl
  have HBD := Lib.hid (fun W (hb : Below w.heap.size w W) => built_any W a len cap ds (hds.below hb))
  have hQl := bothQ_len (ps := []) List.Pairwise.nil ds
  simp only [List.length_nil, Nat.zero_add] at hQl
  generalize bothQ [] ds = Q at HBD hQl
  clear hds
  have hbN := Below.alloc (Below.refl w.heap.size w) (Nat.le_refl _) (.cells #[.bool false] 4)
  have hoN := OneBlk.new w 4 (.bool false)
  refine (callsIn_wide (n := 9)).1 ?_
  refine callsIn_of_wp_marks Try.func7 rfl trivial ?_ rfl
  simp only [Try.ntmps7, List.size_toArray, List.length_cons, List.length_nil, Nat.reduceAdd, Nat.reduceSub, Array.replicate_succ, Array.replicate_zero, List.push_toArray, List.append_toArray, List.nil_append, List.cons_append]
  refine wpIn_wide.2 ?_
  go_upto_block 0 with (first
    | (go_at_call 14; refine (awake_any _).mono ?_; rintro e w1 ⟨rfl, hb1⟩
       have hr1 := hoN.below (by simp) hb1
       have hl1 := hbN.trans (hb1.mono hbN.size)
       have hs1 := hb1.size
       rw [World.size_alloc] at hs1
       clear hb1 hbN hoN)
    | (go_at_call 17; refine (HBD.out _ hl1).mono ?_; rintro e w2 ⟨b, m, v, rfl, hA2, hb12⟩
       have hl2 := hl1.trans (hb12.mono hl1.size)
       have hr2 := hr1.below (by omega) hb12
       have hs2 := hb12.size
       clear hb12 hl1 hr1)
    | (go_at_call 26; refine (pick_any x 7 _ (by decide) (by decide)).mono ?_; rintro e w3 ⟨⟨kk, rfl, hkk, hkm⟩, rfl⟩))
  obtain ⟨n, hn, hn1, hn7⟩ : ∃ n : Nat, (1 : Int) + x % 7 = (n : Int) ∧ 1 ≤ n ∧ n ≤ 7 := ⟨kk + 1, by omega, by omega, by omega⟩
  rw [hn]
  generalize x % 7 = y at *
  clear hn hkm hx hkk
  obtain ⟨w4, hw4⟩ : ∃ w4, w4 = (w2.alloc (.cells #[.pointer (some ⟨b, 0, none⟩)] 24)).alloc (.cells #[.slice none 0 0] 26) := ⟨_, rfl⟩
  have hb24 : Below w2.heap.size w2 w4 := by rw [hw4]; exact ((Below.refl _ _).alloc (Nat.le_refl _) _).alloc (by simp) _
  have hs4 : w4.heap.size = w2.heap.size + 1 + 1 := by rw [hw4]; simp
  have hA4 := hA2.below hb24
  have hA4lt := hA2.lt
  have hr4 := hr2.below hr2.lt hb24
  have ha4 : OneBlk w4 w2.heap.size 24 (.pointer (some ⟨b, 0, none⟩)) := by rw [hw4]; exact key1 _ _ _ _ (OneBlk.new _ _ _)
  have hg4 : OneBlk w4 (w2.heap.size + 1) 26 (.slice none 0 0) := by
    rw [hw4]
    have := OneBlk.new (w2.alloc (.cells #[.pointer (some ⟨b, 0, none⟩)] 24)) 26 (.slice none 0 0)
    rw [World.size_alloc] at this
    exact this
  have hl4 := hl2.trans (hb24.mono hl2.size)
  have hvlt := fun g (hg : v.ownBlock = some g) => (hA2.row.lt g hg).2
  rw [← hw4]
  clear hw4 hb24 hA2 hr2 hl2
  generalize w2.heap.size = A at *
  go_cut [7] from 9 to 49 (fun s7 W => ∃ v7, s7 = v7 ∧ W.ownsRow w4.heap.size 48 2 v7 Q.length (pcells Q) ∧ Below w4.heap.size w4 W)
  case first =>
    have HS := Lib.hid (fun W (hb : Below w4.heap.size w4 W) => Src.art (hA4.below hb))
    have HA := Lib.hid (fun W (hb : Below w4.heap.size w4 W) => (ha4.below (by omega) hb).cell)
    have HSO := Lib.hid hA4.sorted
    have HSM := Lib.hid ((HS.out w4 (Below.refl _ _)).small')
    have hB0 := Below.refl w4.heap.size w4
    clear hA4 ha4 hr4 hg4 hl4 hvlt HBD
    go_wp2_with fail
    go_loopw [7, 9, 10] (fun p f i wr => ∃ (j k : Nat), k ≤ 51 ∧ j ≤ Q.length ∧ (k ≤ j ∨ j = Q.length) ∧ f = .string (bndQ ⟨#[]⟩ Q j) ∧ i = .int .i64 k ∧ wr.ownsRow w4.heap.size 48 2 p j (pcells (Q.take j)) ∧ Below w4.heap.size w4 wr) (fun _ _ i _ => 51 - (intOf i).toNat)
    case atStart => exact ⟨0, 0, by omega, Nat.zero_le _, .inl (Nat.le_refl _), rfl, rfl, World.ownsRow_nil _ _ _ _, hB0⟩
    case round =>
      clear hB0
      obtain ⟨j, k, hk, hj, hkj, rfl, rfl, hrow, hBr⟩ := hrel
      obtain ⟨pa, pc, rfl⟩ := row2_slice hrow
      have HROW := Lib.hid hrow
      have hrlt := Lib.hid hrow.lt
      clear hrow
      by_cases hk5 : k ≤ 50
      · have i5 : decide ((k : Int) ≤ 50) = true := decide_eq_true (by omega)
        have hca := HA.out _ hBr
        have HF := Lib.hid (wfrom_any wr (HS.out _ hBr) (by omega) (bndQ ⟨#[]⟩ Q j) (n : Int))
        rw [page_at HSO.out hj] at HF
        have htp := Lib.hid (take_page (ps := Q) (j := j) (n := n))
        have hbp := Lib.hid (fun m q => bnd_page (ps := Q) (j := j) (n := n) (q := q) (m := m))
        have hXl : ((Q.drop j).take n).length = min n (Q.length - j) := by rw [List.length_take, List.length_drop]
        have hXs : Hid (∀ p ∈ (Q.drop j).take n, p.1.size ≤ 1000 ∧ p.2.size ≤ 1000) := Lib.hid (fun p hp => HSM.out p (List.mem_of_mem_drop (List.mem_of_mem_take hp)))
        have hXl1 : ((Q.drop j).take n).length ≤ n := by omega
        have hXl2 : j + ((Q.drop j).take n).length ≤ Q.length := by omega
        have HXL := Lib.hid (show ((Q.drop j).take n).length = 0 → j = Q.length by omega)
        clear hXl
        generalize (Q.drop j).take n = X at *
        have hXn : decide (n < X.length) = false := decide_eq_false (by omega)
        have hsr := hBr.size
        by_cases hX0 : X.length = 0
        · have hz : ((X.length : Int) == 0) = true := by simp [hX0]
          have HX0 := Lib.hid hX0
          clear hX0
          go_wp2_with (first
            | (go_at_call 27; refine HF.out.mono ?_; rintro e w5 ⟨xv, rfl, hx5, hb5⟩; obtain ⟨xa, xc, rfl⟩ := row2_slice hx5; obtain ⟨hxp, hxl, hxl2, hxsh⟩ := prow_in hx5 hXs.out; have hxn : xa = none → xc = 0 := (fun e => hxsh.elim (fun h => h.2.1) (fun ⟨g, h⟩ => by rw [h] at e; cases e)); have HXN := Lib.hid hxn; have HXP := Lib.hid hxp; have HX5 := Lib.hid hx5; have hb45 := hBr.trans (hb5.mono hsr); have HR5 := Lib.hid (ownsRow_below HROW.out hb5 (Nat.le_refl _)); clear hxn hxp hx5 hxsh)
            | (at_builtin; refine wpList_appV _ rfl _ _ rfl w4.heap.size _ j (Q.take j) rfl HR5.out xa X.length xc X rfl HXN.out HXP.out hb45.size (by omega) ?_; intro p6 c6 w6 hown6 hgr6; rw [htp.out] at hown6; have hb46 := hb45.grown hgr6 hb45.size (fun k e => (hrlt.out k e).1)))
          go_meet
          case rel =>
            have hj2 := HXL.out HX0.out
            have hx2 := HX0.out
            exact ⟨_, rfl, row_full hown6 (by omega), hb46⟩
        · have hz : ((X.length : Int) == 0) = false := beq_eq_false_iff_ne.2 (by omega)
          obtain ⟨m1, hm1⟩ : ∃ m1, X.length = m1 + 1 := ⟨X.length - 1, by omega⟩
          obtain ⟨q, hq⟩ : ∃ q, X[m1]? = some q := ⟨_, List.getElem?_eq_getElem (by omega)⟩
          have hjj : (X.length : Int) - 1 = (m1 : Int) := by omega
          have hwr : IntKind.i64.wrap ((X.length : Int) - 1) = (m1 : Int) := by rw [IntKind.wrap_i64]; omega
          have hj1 : (0 : Int) ≤ (m1 : Int) := by omega
          have hj2 : (m1 : Int) < (X.length : Int) := by omega
          have hj3 : m1 < X.length := by omega
          have hqz := (hXs.out q (List.mem_of_getElem? hq)).1
          have hbq := Lib.hid (hbp.out m1 q hm1 hq)
          have HM1 := Lib.hid hm1
          have HQ := Lib.hid hq
          obtain ⟨q1, q2⟩ := q
          simp only at hqz hbq
          clear hm1 hq hX0
          go_wp2_with (first
            | (go_at_call 27; refine HF.out.mono ?_; rintro e w5 ⟨xv, rfl, hx5, hb5⟩; obtain ⟨xa, xc, rfl⟩ := row2_slice hx5; obtain ⟨hxp, hxl, hxl2, hxsh⟩ := prow_in hx5 hXs.out; have hxn : xa = none → xc = 0 := (fun e => hxsh.elim (fun h => h.2.1) (fun ⟨g, h⟩ => by rw [h] at e; cases e)); have HXN := Lib.hid hxn; have HXP := Lib.hid hxp; have HX5 := Lib.hid hx5; have hb45 := hBr.trans (hb5.mono hsr); have HR5 := Lib.hid (ownsRow_below HROW.out hb5 (Nat.le_refl _)); obtain ⟨g, rfl, _⟩ := prow_key hx5 hXs.out HQ.out; clear hxn hxp hx5 hxsh)
            | (at_builtin; refine wpList_appV _ rfl _ _ rfl w4.heap.size _ j (Q.take j) rfl HR5.out (some ⟨g, 0, none⟩) X.length xc X rfl HXN.out HXP.out hb45.size (by omega) ?_; intro p6 c6 w6 hown6 hgr6; rw [htp.out] at hown6; have hb46 := hb45.grown hgr6 hb45.size (fun k e => (hrlt.out k e).1); have hx6 := own_grown HX5.out hgr6 (fun k e => .inl (hrlt.out k e).2); obtain ⟨g2, e2, ck6⟩ := prow_key hx6 hXs.out HQ.out; cases e2; clear hx6)
            | (go_at_call 28; refine (after_any q1 _ (by omega)).mono ?_; rintro e w7 ⟨rfl, rfl⟩))
          go_roundw
          case rel =>
            have hx2 := HM1.out
            exact ⟨j + X.length, k + 1, by omega, by omega, by omega, by rw [HM1.out, hbq.out], by go_num, hown6, hb46⟩
          case measure => simp [intOf]; omega
      · have i5 : decide ((k : Int) ≤ 50) = false := decide_eq_false (by omega)
        go_wp2_with fail
        go_meet
        case rel => exact ⟨_, rfl, row_full HROW.out (by omega), hBr⟩
  case rest =>
    obtain ⟨v7, rfl, hrow7, hBc⟩ := hcut
    obtain ⟨pa, pc, rfl⟩ := row2_slice hrow7
    have hAc := hA4.below hBc
    have hrc := hr4.below (by have := hr4.lt; omega) hBc
    have hac := ha4.below (by omega) hBc
    have hgc := hg4.below (by omega) hBc
    have hlc := hl4.trans (hBc.mono hl4.size)
    have hNA : w.heap.size < A := by omega
    have hsc := hBc.size
    have hso := hAc.sorted
    have ca := hac.cell
    clear hA4 ha4 hg4 hr4 hl4 hBc HBD
    go_wp2_with (go_at_call 13; refine (goes_any _ _ _).mono ?_; rintro e w3 ⟨rfl, rfl⟩)
    refine (wpIn_wide (n := 9)).1 ?_
    try simp only [World.size_alloc]
    refine rangeFunc_open rfl (by omega) (gf := 60) (lb := #[.pointer (some ⟨wc.heap.size, 0, none⟩), .pointer (some ⟨wc.heap.size + 1, 0, none⟩)]) rfl trivial (enters_of Try.func60 (by kernel_rfl) rfl) ?_
    intro fn hfn
    try simp only [World.size_alloc]
    generalize hrec : recOf fn _ _ _ _ _ = rec
    have hst : ∀ st pe, (rec st pe).state = st := by intro st pe; rw [← hrec]; rfl
    have hup : ∀ st pe st' pe', ({ rec st pe with state := st', pending := pe' } : Loop) = rec st' pe' := by intro st pe st' pe'; rw [← hrec]; rfl
    have hup1 : ({ rec .ready none with state := .busy } : Loop) = rec .busy none := by rw [← hrec]; rfl
    obtain ⟨S0, hS0⟩ : ∃ S0, (((wc.alloc (Obj.cells #[Value.pointer (some { block := b, off := 0 })] 82)).alloc (Obj.cells #[Value.string ⟨#[]⟩] 9)).alloc (.deferred (some []))).alloc (.loop (rec .ready none)) = S0 := ⟨_, rfl⟩
    obtain ⟨c3, c4, c5, c6, hbS, hszS⟩ := chain4 wc _ _ _ _ S0 hS0.symm
    rw [hS0]
    clear hS0
    have s3 : S0.cell? ⟨wc.heap.size, 0, none⟩ = some (Value.pointer (some ⟨b, 0, none⟩)) := by simp [World.cell?, c3]
    have s4 : S0.cell? ⟨wc.heap.size + 1, 0, none⟩ = some (Value.string ⟨#[]⟩) := by simp [World.cell?, c4]
    have hG : A + 1 < wc.heap.size := by omega
    have HART := Lib.hid (fun W (g : wc.grownBy W (some (A + 1))) => art_grown hAc g (by omega) (by omega) (fun e => by have := hvlt _ e; omega))
    have HA := Lib.hid (fun W (g : wc.grownBy W (some (A + 1))) => (g.block A (by omega) (by simp)).trans hac)
    have HR := Lib.hid (fun W (g : wc.grownBy W (some (A + 1))) => (g.block w.heap.size (by omega) (by simp; omega)).trans hrc)
    have HP := Lib.hid (fun W (g : wc.grownBy W (some (A + 1))) => own_grown hrow7 g (fun j e => by cases e; omega))
    have HL := Lib.hid (fun W (g : wc.grownBy W (some (A + 1))) => hlc.grown g hlc.size (fun j e => by cases e; omega))
    have HSO := Lib.hid hso
    have HSM := Lib.hid hAc.small
    have HJ0 : Hid (PgB wc (A + 1) b (.loop (rec .ready none)) 0 Q (S0.alloc (.cells #[.pointer (some ⟨b, 0, none⟩)] 82))) := by
      refine Lib.hid ?_
      have hal := Below.alloc (Below.refl S0.heap.size S0) (Nat.le_refl _) (Obj.cells #[Value.pointer (some ⟨b, 0, none⟩)] 82)
      have ht := World.alloc_heap_new S0 (Obj.cells #[Value.pointer (some ⟨b, 0, none⟩)] 82)
      rw [hszS] at ht
      have hbT := hbS.trans (hal.mono (by omega))
      exact ⟨⟨_, hgc.below (by omega) hbT, World.ownsRow_nil _ _ _ _⟩, (hal.block _ (by omega)).trans c5, (hal.block _ (by omega)).trans c6, ht, grown_below hbT _⟩
    clear hAc hrc hac hgc hlc hrow7 hso ca hbS c3 c4 c5 c6 hvlt
    refine (pairs1_in (9 - 1) (by omega) (wc.heap.size + 1 + 1 + 1) Q.length (wc.heap.size + 1 + 1 + 1 + 1) wc.heap.size (wc.heap.size + 1) (.pointer (some ⟨b, 0, none⟩)) (some ⟨b, 0, none⟩) rfl ⟨#[]⟩ S0 hszS
      (fun k f W => f = bndQ ⟨#[]⟩ Q k ∧ k ≤ Q.length ∧ PgB wc (A + 1) b (.loop (rec .ready none)) k Q W) (fun W => PgB wc (A + 1) b (.loop (rec .ready none)) Q.length Q W) s3 s4 ⟨rfl, Nat.zero_le _, HJ0.out⟩ ?jt ?ja (by omega)).mono ?post
    case jt =>
      rintro k f W ⟨rfl, h2, h3⟩
      exact ⟨h2, by have := h3.tou; simp [World.cell?, this]⟩
    case ja =>
      clear HJ0 s3 s4 hszS
      rintro k f W ⟨rfl, hkQ, h⟩
      refine ⟨Q[k]?, fun p hp => (HSM.out p (List.mem_of_getElem? hp)).1, ?_, ?_, ?_⟩
      · have := afrom_any W (HART.out W h.gro) (by omega) (bndQ ⟨#[]⟩ Q k)
        rw [afromV_hit, pos_bnd HSO.out hkQ] at this
        exact this
      · intro hnone W' hb
        obtain rfl : k = Q.length := by have := List.getElem?_eq_none_iff.1 hnone; omega
        exact h.below hG hb
      · intro p hp W' hb
        have h' := h.below hG hb
        have hpl := (List.getElem?_eq_some_iff.1 hp).1
        have hps := HSM.out p (List.mem_of_getElem? hp)
        clear h hb
        have hl' := h'.lop
        rw [← hrec] at hl'
        refine yield_open hl' rfl hfn ?_
        clear hl'
        gi_wp2
        obtain ⟨X1, hX1⟩ : ∃ X1, W'.alloc (Obj.cells #[Value.string p.fst, Value.string p.snd] 48) = X1 := ⟨_, rfl⟩
        have hal : Below W'.heap.size W' X1 := by rw [← hX1]; exact (Below.refl _ _).alloc (Nat.le_refl _) _
        have hp1 : X1.heap[W'.heap.size]? = some (Obj.cells #[Value.string p.fst, Value.string p.snd] 48) := by rw [← hX1]; exact World.alloc_heap_new _ _
        have h1 := h'.below hG hal
        have hPlt := h'.lt
        have hsP : X1.heap.size = W'.heap.size + 1 := by rw [← hX1]; simp
        rw [hX1]
        clear hX1 hal h'
        generalize W'.heap.size = P at hp1 hPlt hsP ⊢
        have hpb := run_beginRound (P := Try.prog) h1.lop (hst _ _)
        rw [hup1] at hpb
        refine ⟨_, hpb, ?_⟩
        clear hpb
        have h2 := h1.put hG (.loop (rec .busy none))
        have hp2 : (X1.putObj (wc.heap.size + 1 + 1 + 1) (.loop (rec .busy none))).heap[P]? = some (Obj.cells #[Value.string p.fst, Value.string p.snd] 48) := (World.putObj_heap_other (by omega)).trans hp1
        clear h1 hp1 hsP
        generalize X1.putObj (wc.heap.size + 1 + 1 + 1) (.loop (rec .busy none)) = X2 at h2 hp2 ⊢
        have q0 := OneBlk.cell (HA.out X2 h2.gro)
        obtain ⟨v, hv, hrow⟩ := h2.out
        obtain ⟨va, vc, rfl⟩ := row2_slice hrow
        have q1 := hv.cell
        have hcall := wnth_any X2 (Src.art (HART.out X2 h2.gro)) (by omega) (k : Int)
        have hnth : refnthV Q (k : Int) = .tuple #[pairV p, .bool true] := by
          unfold refnthV
          rw [if_neg (by omega), show ((k : Int).toNat) = k from rfl, hp]
        rw [hnth] at hcall
        simp only [pairV] at hcall
        have htk : Hid (Q.take (k + 1) = Q.take k ++ [p]) := Lib.hid (by rw [List.take_add_one, hp]; rfl)
        have hbn : Hid (bndQ ⟨#[]⟩ Q (k + 1) = p.1 ++ ⟨#[0]⟩) := Lib.hid (by simp [bndQ, hp])
        have HC := Lib.hid hcall
        have HB := Lib.hid h2
        have HP2 := Lib.hid hp2
        have HV := Lib.hid hv
        have HRW := Lib.hid hrow
        clear h2 hp2 hcall hv hrow hnth hp
        obtain ⟨p1, p2⟩ := p
        simp only at HC HP2 hps htk hbn
        have ik : decide ((50 : Int) < (k : Int)) = false := decide_eq_false (by omega)
        have ik2 : decide (50 < k) = false := decide_eq_false (by omega)
        have e1 : (p1.toList == p1.toList) = true := by simp
        have e2 : (p2.toList == p2.toList) = true := by simp
        obtain ⟨i0, hi, hz0, hz1, hz2⟩ := info_parts2 infoPair
        have HI := Lib.hid hi
        have HZ := Lib.hid (And.intro hz0 (And.intro hz1 hz2))
        clear hi hz0 hz1 hz2
        gi_wp2_with (first
          | (refine ⟨trivial, ?_⟩; gi_at_call 29; refine (callsIn_wide.2 HC.out).mono ?_; rintro e X3 ⟨rfl, hn3⟩
             have h3 := HB.out.below hG hn3
             have hp3 : X3.heap[P]? = some (Obj.cells #[Value.string p1, Value.string p2] 48) := (hn3.block P (Array.getElem?_eq_some_iff.1 HP2.out).1).trans HP2.out
             have x0 := fun o => (show (X3.alloc o).cell? ⟨P, 0, none⟩ = some (.string p1) by have := key1 _ _ o _ hp3; simp [World.cell?, this])
             have x1 := fun o => (show (X3.alloc o).cell? ⟨P, 1, none⟩ = some (.string p2) by have := key1 _ _ o _ hp3; simp [World.cell?, this])
             have hv3 := HV.out.below (by have := HB.out.lt; omega) hn3
             have x2 := fun o => (hv3.alloc' o).cell
             have HV3 := Lib.hid hv3
             have HR3 := Lib.hid (own_grown HRW.out (grown_below hn3 none) (fun j e => by cases e))
             have hX3 := HB.out.lt
             have hX3s := hn3.size
             have HB3 := Lib.hid h3
             clear h3 hp3 hv3)
          | (gi_at_builtin; refine wpListIn_append_own _ rfl _ _ 26 rfl (wc.heap.size + 1 + 1 + 1 + 1 + 1) 48 i0 (.agg #[.string ⟨#[]⟩, .string ⟨#[]⟩]) 2 32 Try.underlying26 HI.out HZ.out.1 HZ.out.2.1 HZ.out.2.2 rfl (by decide) _ k (pcells (Q.take k)) rfl ((HR3.out.alloc _).alloc _) ⟨X3.heap.size + 1, 0, none⟩ 1 1 [.string p1, .string p2] rfl rfl (two_new2 _ _ _ _ _) (two_one _ _) (by unfold maxLen; omega) (by omega) (by simp; omega) ?_; intro v' w1 hown' hgrow hnil; obtain ⟨g', cap', rfl⟩ := (prow_slice hown').resolve_left (fun e => by have := e.2; omega); have hv1 : OneBlk w1 (A + 1) 26 (.slice va k vc) := Boxed.kept ((HV3.out.alloc' _).alloc' _) hgrow (Boxed.not_row HV3.out (by decide) HR3.out); have k1 := OneBlk.cell hv1; have f1 := fun j => OneBlk.frozen hv1 j))
        have HB4 := (HB3.out.below hG (Below.alloc (Below.refl X3.heap.size X3) (Nat.le_refl _) (Obj.cells #[Value.string p1, Value.string p2] 48))).app hG (HR3.out.alloc _) hgrow hown' (by rw [htk.out, pcells_append]; rfl) hv1
        have hend := HB4.lop
        have hendr := run_endRound (P := Try.prog) none hend
        rw [hup] at hendr
        exact ⟨_, _, hendr, .inl ⟨rfl, hbn.out.symm, by omega, HB4.put hG _⟩⟩
    case post =>
      clear HJ0 s3 s4 hszS
      rintro e W' ⟨⟨v0, rfl⟩, h⟩
      have hrun : (Instr.endLoop (wc.heap.size + 1 + 1 + 1)).run Try.prog W' = .ok none (W'.putObj (wc.heap.size + 1 + 1 + 1) (.loop (rec .exhausted none))) := by
        have hl := h.lop
        rw [← hrec] at hl ⊢
        exact run_endLoop hl (by simp [recOf])
      refine ⟨none, _, hrun, ?_⟩
      have h2 := h.put hG (.loop (rec .exhausted none))
      clear h hrun
      generalize W'.putObj (wc.heap.size + 1 + 1 + 1) (.loop (rec .exhausted none)) = W4 at h2 ⊢
      have q0 := OneBlk.cell (HA.out W4 h2.gro)
      obtain ⟨v, hv, hrow⟩ := h2.out
      obtain ⟨va, vc, rfl⟩ := row2_slice hrow
      have q1 := hv.cell
      have hcall := wnth_any W4 (Src.art (HART.out W4 h2.gro)) (by omega) (Q.length : Int)
      have hnth : refnthV Q (Q.length : Int) = .tuple #[pairV (⟨#[]⟩, ⟨#[]⟩), .bool false] := by
        unfold refnthV
        rw [if_neg (by omega), show ((Q.length : Int).toNat) = Q.length from rfl, List.getElem?_eq_none (Nat.le_refl _)]
      rw [hnth] at hcall
      simp only [pairV] at hcall
      have HC := Lib.hid hcall
      have HB := Lib.hid h2
      have HV := Lib.hid hv
      have HRW := Lib.hid hrow
      clear h2 hcall hv hrow hnth
      gi_wp2
      go_wp2_with (first
        | (go_at_call 29; refine HC.out.mono ?_; rintro e X3 ⟨rfl, hn3⟩
           have hal := hn3.trans ((Below.alloc (Below.refl X3.heap.size X3) (Nat.le_refl _) (Obj.cells #[Value.string ⟨#[]⟩, Value.string ⟨#[]⟩] 48)).mono hn3.size)
           have HB3 := Lib.hid (HB.out.below hG hal)
           have HV3 := Lib.hid (HV.out.below (by have := HB.out.lt; omega) hal)
           have HR3 := Lib.hid (own_grown HRW.out (grown_below hal none) (fun j e => by cases e))
           clear hn3 hal))
      generalize X3.alloc (Obj.cells #[Value.string ⟨#[]⟩, Value.string ⟨#[]⟩] 48) = X4 at HB3 HV3 HR3 ⊢
      have hdr := (Below.refl X4.heap.size X4).drew
      have h5 := HB3.out.below hG hdr
      have hr5 := own_grown HR3.out (grown_below hdr none) (fun j e => by cases e)
      have hv5 := HV3.out.below (by have := HB3.out.lt; omega) hdr
      have hlt5 := h5.lt
      clear HB3 HV3 HR3 HC HB HV HRW hdr
      generalize hX5 : X4.drew = X5 at h5 hr5 hv5 hlt5
      have hsm' : Hid (∀ p ∈ Q, p.1.size ≤ 1000 ∧ p.2.size ≤ 1000) := Lib.hid (fun p hp => by have := HSM.out p hp; omega)
      have HX := Lib.hid (fun W (hb : Below X5.heap.size X5 W) => h5.below hG hb)
      have HGO := Lib.hid (fun W (hb : Below X5.heap.size X5 W) => (prow_isp (B := wc.heap.size + 1 + 1 + 1 + 1 + 1) (own_grown (row_full hr5 rfl) (grown_below hb none) (fun j e => by cases e)) hsm'.out : IsPairs W va Q.length Q))
      have HPA := Lib.hid (fun W (hb : Below X5.heap.size X5 W) => (prow_isp (B := w4.heap.size) (HP.out W (HX.out W hb).gro) hsm'.out : IsPairs W pa Q.length Q))
      have HV5 := Lib.hid (fun W (hb : Below X5.heap.size X5 W) => hv5.below (by omega) hb)
      have HS := Lib.hid (fun W (hb : Below X5.heap.size X5 W) => show W.cell? ⟨A + 1, 0, none⟩ = some (.slice va Q.length vc) ∧ W.cell? ⟨A, 0, none⟩ = some (.pointer (some ⟨b, 0, none⟩)) from ⟨(hv5.below (by omega) hb).cell, OneBlk.cell (HA.out W (HX.out W hb).gro)⟩)
      have hst5 := HS.out X5 (Below.refl _ _)
      clear q0 q1 h5 hr5 hv5
      refine wp_region_noPanic ?_
      refine wp_region_held_drew (S := fun w' => w'.cell? ⟨A + 1, 0, none⟩ = some (.slice va Q.length vc) ∧ w'.cell? ⟨A, 0, none⟩ = some (.pointer (some ⟨b, 0, none⟩))) (by kernel_rfl) (by rw [hX5]; exact hst5) (fun _ => ?_)
      rw [hX5]
      clear hX5
      refine wpAnyH_take (i := 0) (v := .bool false) rfl (by kernel_rfl) (by kernel_rfl) (by kernel_rfl) (fun _ _ _ h => h) (Or.inl ⟨by rfl, ?_⟩) hst5 ?_
      · intro w' hSw
        obtain ⟨l0, l1⟩ := hSw
        go_simp
      try simp only [Act.put, List.setIfInBounds_toArray, List.set_cons_zero, List.set_cons_succ]
      refine wpAnyH_take (i := 1) (v := .bool true) rfl (by kernel_rfl) (by kernel_rfl) (by kernel_rfl) (fun _ _ _ h => h) (Or.inl ⟨by rfl, ?_⟩) hst5 ?_
      · intro w' hSw
        obtain ⟨l0, l1⟩ := hSw
        go_simp
      try simp only [Act.put, List.setIfInBounds_toArray, List.set_cons_zero, List.set_cons_succ]
      refine wpAnyH_take (i := 2) (v := .bool true) rfl (by kernel_rfl) (by kernel_rfl) (by kernel_rfl) (fun _ _ _ h => h) (Or.inl ⟨by rfl, ?_⟩) hst5 ?_
      · intro w' hSw
        obtain ⟨l0, l1⟩ := hSw
        go_simp
      try simp only [Act.put, List.setIfInBounds_toArray, List.set_cons_zero, List.set_cons_succ]
      refine wpAnyH_take (i := 3) (v := .slice pa Q.length pc) rfl (by kernel_rfl) (by kernel_rfl) (by kernel_rfl) (fun _ _ _ h => h) (Or.inl ⟨by rfl, ?_⟩) hst5 ?_
      · intro w' hSw
        obtain ⟨l0, l1⟩ := hSw
        go_simp
      try simp only [Act.put, List.setIfInBounds_toArray, List.set_cons_zero, List.set_cons_succ]
      refine wpAnyH_take (i := 4) (v := .slice va Q.length vc) rfl (by kernel_rfl) (by kernel_rfl) (by kernel_rfl) (fun _ _ _ h => h) (Or.inl ⟨by rfl, ?_⟩) hst5 ?_
      · intro w' hSw
        obtain ⟨l0, l1⟩ := hSw
        go_simp
      try simp only [Act.put, List.setIfInBounds_toArray, List.set_cons_zero, List.set_cons_succ]
      refine wpAnyH_ready (rs := [5]) (by kernel_rfl) (by simp) ?_
      refine AllReadyH.cons (o := _) rfl (fun Kx hKx => ?_) AllReadyH.nil
      go_simp
      go_at_call 22
      refine (same_of (HPA.out X5 (Below.refl _ _)) (HGO.out X5 (Below.refl _ _)) (by omega)).mono ?_
      rintro e X6 ⟨rfl, hb56⟩
      have hst6 := HS.out X6 hb56
      try simp only
      refine hKx.out _ _ hst6 (fun _ => ?_)
      clear hKx Kx
      try simp only [Act.put, List.setIfInBounds_toArray, List.set_cons_zero, List.set_cons_succ]
      refine wpAnyH_take (i := 6) (v := .bool true) rfl (by kernel_rfl) (by kernel_rfl) (by kernel_rfl) (fun _ _ _ h => h) (Or.inl ⟨by rfl, ?_⟩) hst6 ?_
      · intro w' hSw
        obtain ⟨l0, l1⟩ := hSw
        go_simp
      try simp only [Act.put, List.setIfInBounds_toArray, List.set_cons_zero, List.set_cons_succ]
      refine wpAnyH_take (i := 7) (v := .bool true) rfl (by kernel_rfl) (by kernel_rfl) (by kernel_rfl) (fun _ _ _ h => h) (Or.inl ⟨by rfl, ?_⟩) hst6 ?_
      · intro w' hSw
        obtain ⟨l0, l1⟩ := hSw
        go_simp
      try simp only [Act.put, List.setIfInBounds_toArray, List.set_cons_zero, List.set_cons_succ]
      refine wpAnyH_take (i := 8) (v := .slice va Q.length vc) rfl (by kernel_rfl) (by kernel_rfl) (by kernel_rfl) (fun _ _ _ h => h) (Or.inl ⟨by rfl, ?_⟩) hst6 ?_
      · intro w' hSw
        obtain ⟨l0, l1⟩ := hSw
        go_simp
      try simp only [Act.put, List.setIfInBounds_toArray, List.set_cons_zero, List.set_cons_succ]
      refine wpAnyH_take (i := 9) (v := .pointer (some ⟨b, 0, none⟩)) rfl (by kernel_rfl) (by kernel_rfl) (by kernel_rfl) (fun _ _ _ h => h) (Or.inl ⟨by rfl, ?_⟩) hst6 ?_
      · intro w' hSw
        obtain ⟨l0, l1⟩ := hSw
        go_simp
      try simp only [Act.put, List.setIfInBounds_toArray, List.set_cons_zero, List.set_cons_succ]
      refine wpAnyH_ready (rs := [10]) (by kernel_rfl) (by simp) ?_
      refine AllReadyH.cons (o := _) rfl (fun Kx hKx => ?_) AllReadyH.nil
      go_simp
      go_at_call 19
      refine (wall_any _ (HART.out X6 (HX.out X6 hb56).gro) (by omega)).mono ?_
      rintro e X7 ⟨wv, rfl, hw7, hb67⟩
      obtain ⟨wa, wc2, rfl⟩ := row2_slice hw7
      have hb57 := hb56.trans (hb67.mono hb56.size)
      have hst7 := HS.out X7 hb57
      try simp only
      refine hKx.out _ _ hst7 (fun _ => ?_)
      clear hKx Kx
      try simp only [Act.put, List.setIfInBounds_toArray, List.set_cons_zero, List.set_cons_succ]
      refine wpAnyH_ready (rs := [11]) (by kernel_rfl) (by simp) ?_
      refine AllReadyH.cons (o := _) rfl (fun Kx hKx => ?_) AllReadyH.nil
      go_simp
      go_at_call 22
      refine (same_of (HGO.out X7 hb57) (prow_isp hw7 hsm'.out) (by omega)).mono ?_
      rintro e X8 ⟨rfl, hb78⟩
      have hb58 := hb57.trans (hb78.mono hb57.size)
      have hst8 := HS.out X8 hb58
      have h8 := HX.out X8 hb58
      have r8 := HR.out X8 h8.gro
      have r8c := OneBlk.cell (t := 4) r8
      have r8f := OneBlk.frozen (t := 4) r8 0
      try simp only
      refine hKx.out _ _ hst8 (fun _ => ?_)
      clear hKx Kx
      try simp only [Act.put, List.setIfInBounds_toArray, List.set_cons_zero, List.set_cons_succ]
      refine wpAnyH_take (i := 12) (v := .bool true) rfl (by kernel_rfl) (by kernel_rfl) (by kernel_rfl) (fun _ _ _ h => h) (Or.inl ⟨by rfl, ?_⟩) hst8 ?_
      · intro w' hSw
        obtain ⟨l0, l1⟩ := hSw
        go_simp
      try simp only [Act.put, List.setIfInBounds_toArray, List.set_cons_zero, List.set_cons_succ]
      refine wpAnyH_ready (rs := [13]) (by kernel_rfl) (by simp) ?_
      refine AllReadyH.cons (o := _) rfl (fun Kx hKx => ?_) AllReadyH.nil
      go_simp
      try simp only
      refine hKx.out _ _ ⟨(one_set_other (HV5.out X8 hb58) (show w.heap.size ≠ A + 1 by omega) _).cell, (one_set_other (HA.out X8 h8.gro) (show w.heap.size ≠ A by omega) _).cell⟩ (fun _ => ?_)
      clear hKx Kx
      try simp only [Act.put, List.setIfInBounds_toArray, List.set_cons_zero, List.set_cons_succ]
      refine wpAnyH_done (by kernel_rfl) ?_ _
      refine NoPanic.normal ?_
      have hD := ((Below.heap_setCell _ _ _ _ (by show wc.heap.size + 1 + 1 ≠ w.heap.size; omega)).trans h8.dfr : (X8.setCell ⟨w.heap.size, 0, none⟩ (.bool true)).heap[wc.heap.size + 1 + 1]? = _)
      have hg9 := grownBy_setCell' X8 w.heap.size (.bool true)
      have hl8 := HL.out X8 h8.gro
      have hb9 := OneBlk.set (.bool true) r8
      have hlow := hl8.grown hg9 hl8.size (fun j e => by cases e; omega)
      clear r8 r8c r8f hst8 hst7 hst6 hst5 h8 hl8 hg9
      generalize X8.setCell ⟨w.heap.size, 0, none⟩ (.bool true) = X9 at hD hb9 hlow ⊢
      go_wp2
      have hg6 := grownBy_putObj' X9 (wc.heap.size + 1 + 1) (.deferred none)
      have q9 := (boxed_putNon hb9 (.deferred none) hD rfl).cell
      refine ⟨by simp, .inl ⟨_, _, rfl, run_takeDeferred hD, ?_⟩⟩
      refine ⟨.bool true, ?_, rfl, hlow.grown hg6 hlow.size (fun j e => by cases e; omega)⟩
      simp [results, Try.f7, go_sem, q9]

end Go.Proofs.Ytegccicplcjcmaa
