/- Walk: the law WalkBegins returns true. -/
import Derived.Test.YtegccicplcjcmaaWL4
namespace Go.Proofs.Ytegccicplcjcmaa
open Go Go.RowKit Go.Shelf Go.Proofs
attribute [local go_sem] Oper.semAt_some

theorem beg_more (ps : PS) (p m : ByteArray) : (begP ps (p ++ m)).length ≤ (begP ps p).length := by
  have h : begP ps (p ++ m) = (begP ps p).filter (fun q => begB q.1 (p ++ m)) := by
    unfold begP
    rw [List.filter_filter]
    apply List.filter_congr
    intro q _
    cases h : begB q.1 (p ++ m) with
    | false => simp
    | true =>
      have h1 := List.isPrefixOf_iff_prefix.1 h
      rw [by_append] at h1
      have h2 : begB q.1 p = true := List.isPrefixOf_iff_prefix.2 ((List.prefix_append (by_ p) (by_ m)).trans h1)
      rw [h2]; rfl
  rw [h]
  exact List.length_filter_le _ _

theorem beg_all {ps : PS} {p : ByteArray} {k : Nat} {q : ByteArray × ByteArray} (h : (begP ps p)[k]? = some q) : begB q.1 p = true := (List.mem_filter.1 (List.mem_of_getElem? h)).2

/-- How many lie ahead. -/
theorem btw_ahead {ps : PS} (hs : SortedP ps) {p : ByteArray} (hp : p ≠ ⟨#[]⟩) : (btwP ps ⟨#[]⟩ p).length = posP ps p := by
  unfold btwP posP
  congr 1
  apply List.filter_congr
  intro q _
  unfold inB
  rw [klt_nil]
  simp [hp]

/-- The unbroken part. -/
theorem beg_part {ps : PS} (hs : SortedP ps) (p : ByteArray) : (ps.drop (posP ps p)).take (begP ps p).length = begP ps p ∧ posP ps p + (begP ps p).length ≤ ps.length := by
  have h : begP ps p = (ps.drop (posP ps p)).takeWhile (fun q => upB (beyB p) q.1) := by rw [beg_btw, btw_eq hs]
  have h2 := List.takeWhile_prefix (fun q : ByteArray × ByteArray => upB (beyB p) q.1) (l := ps.drop (posP ps p))
  rw [← h] at h2
  refine ⟨(List.prefix_iff_eq_take.1 h2).symm, ?_⟩
  have h3 := h2.length_le
  have := posP_le ps p
  rw [List.length_drop] at h3
  omega

set_option linter.unusedVariables false in
set_option maxRecDepth 100000 in
set_option maxHeartbeats 8000000 in
theorem law_WalkBegins (a : Option Addr) (len cap : Nat) (ds : List Deed) (p : ByteArray) (hp : p.size ≤ 140737488351232) (more : ByteArray) (hm : more.size ≤ 140737488351232) (w : World) (hds : IsDeeds w a len ds) :
    Calls Try.prog 5 #[.slice a len cap, .string p, .string more] w fun e w' => e = .returned (.bool true) ∧ Below w.heap.size w w' := by
  by_cases hbig : 200 < p.size ∨ 200 < more.size
  · by_cases h1 : 200 < p.size
    · have i1 : (200 : Int) < (p.size : Int) := by omega
      go_enter Try.func5, Try.ntmps5
      go_wp2_with (go_at_call 14; refine (awake_any _).mono ?_; rintro e w3 ⟨rfl, hb3⟩)
      go_ret
      exact ⟨rfl, hb3⟩
    · have i1 : decide ((200 : Int) < (p.size : Int)) = false := decide_eq_false (by omega)
      have i2 : (200 : Int) < (more.size : Int) := by omega
      go_enter Try.func5, Try.ntmps5
      go_wp2_with (go_at_call 14; refine (awake_any _).mono ?_; rintro e w3 ⟨rfl, hb3⟩)
      go_ret
      exact ⟨rfl, hb3⟩
  · have i1 : decide ((200 : Int) < (p.size : Int)) = false := decide_eq_false (by omega)
    have i2 : ¬ (200 : Int) < (more.size : Int) := by omega
    have hp200 : p.size ≤ 200 := by omega
    have hm200 : more.size ≤ 200 := by omega
    have hpm : (p ++ more).size ≤ 281474976710656 := by rw [← size_by, by_append, List.length_append, size_by, size_by]; omega
    have hpm2 : p.size + more.size ≤ 281474976710656 := by omega
    have HBD := Lib.hid (fun W (hb : Below w.heap.size w W) => built_any W a len cap ds (hds.below hb))
    have hQl := bothQ_len (ps := []) List.Pairwise.nil ds
    simp only [List.length_nil, Nat.zero_add] at hQl
    generalize bothQ [] ds = Q at HBD hQl
    clear hds hbig
    go_enter Try.func5, Try.ntmps5
    go_wp2_with (first
      | (go_at_call 14; refine (awake_any _).mono ?_; rintro e w2 ⟨rfl, hb2⟩)
      | (go_at_call 17; refine (HBD.out _ hb2).mono ?_; rintro e w3 ⟨b, m, v, rfl, hA3, hb23⟩; have hb3 := hb2.trans (hb23.mono hb2.size); have hA3' := Lib.hid hA3; have HS := Lib.hid (fun W (hb : Below w3.heap.size w3 W) => Src.art (hA3.below hb)); clear hA3 hb23)
      | (go_at_call_of 18 (Value.string (p ++ more)); refine (wbegin_any _ (HS.out _ hb34) (by omega) (p ++ more) hpm).mono ?_; rintro e w5 ⟨yv, rfl, hy5, hb45⟩; have hb35 := hb34.trans (hb45.mono hb34.size); obtain ⟨ya, yc, rfl⟩ := row2_slice hy5)
      | (go_at_call_of 18 (Value.string p); refine (wbegin_any _ (HS.out _ (Below.refl _ _)) (by omega) p (by omega)).mono ?_; rintro e w4 ⟨xv, rfl, hx4, hb34⟩; obtain ⟨xa, xc, rfl⟩ := row2_slice hx4)
      | (go_at_call 19; refine (wall_any _ (hA3'.out.below hb35) (by omega)).mono ?_; rintro e w6 ⟨wv, rfl, hw6, hb56⟩; have hb36 := hb35.trans (hb56.mono hb35.size); obtain ⟨wa, wc, rfl⟩ := row2_slice hw6))
    have hsm := (HS.out w3 (Below.refl _ _)).small'
    have hso := (HS.out w3 (Below.refl _ _)).sorted
    have IX : Hid (∀ W, Below w6.heap.size w6 W → IsPairs W xa (begP Q p).length (begP Q p)) := Lib.hid (fun W hb => by
      obtain ⟨a', c', e, h1, _⟩ := prow_is (prow_below hb56 (prow_below hb45 hx4)) (begP_small hsm p)
      cases e
      exact h1.below hb)
    have IY : Hid (∀ W, Below w6.heap.size w6 W → IsPairs W ya (begP Q (p ++ more)).length (begP Q (p ++ more))) := Lib.hid (fun W hb => by
      obtain ⟨a', c', e, h1, _⟩ := prow_is (prow_below hb56 hy5) (begP_small hsm (p ++ more))
      cases e
      exact h1.below hb)
    obtain ⟨hwp, hwc, hwm, hwsh⟩ := prow_in hw6 hsm
    have IW := Lib.hid (fun W (hb : Below w6.heap.size w6 W) => hwp.below hb)
    have LX := begP_len Q p
    have LY := begP_len Q (p ++ more)
    have LYX := beg_more Q p more
    have HBY := Lib.hid (fun (k : Nat) (q : ByteArray × ByteArray) (h : (begP Q (p ++ more))[k]? = some q) => beg_all h)
    obtain ⟨hpart, hfit⟩ := beg_part hso p
    have HPART := Lib.hid hpart
    have HAH := Lib.hid (fun (h : p ≠ ⟨#[]⟩) => btw_ahead hso h)
    have hb6 := hb3.trans (hb36.mono hb3.size)
    have hz36 := hb36.size
    have HSM := Lib.hid hsm
    obtain ⟨i0, hi, hz0, hz1, hz2⟩ := info_parts2 infoPair
    have hrow0 : w6.ownsRow w6.heap.size 48 2 (.slice none 0 0) 0 (pcells ((Q.take 0).filter (fun q => begB q.1 p))) := World.ownsRow_nil _ _ _ _
    have hB0 := Below.refl w6.heap.size w6
    clear hx4 hy5 hw6 hwp hpart hsm
    generalize begP Q (p ++ more) = Y at *
    go_loopw [11, 12] (fun o i wr => ∃ k : Nat, k ≤ Q.length ∧ i = .int .i64 k ∧ wr.ownsRow w6.heap.size 48 2 o ((Q.take k).filter (fun q => begB q.1 p)).length (pcells ((Q.take k).filter (fun q => begB q.1 p))) ∧ Below w6.heap.size w6 wr) (fun _ i _ => Q.length - (intOf i).toNat)
    case atStart => exact ⟨0, Nat.zero_le _, rfl, hrow0, hB0⟩
    case round =>
      clear hrow0 hB0
      obtain ⟨k, hk, rfl, hrow, hB⟩ := hrel
      obtain ⟨va, vc, rfl⟩ := row2_slice hrow
      by_cases hk2 : k < Q.length
      · obtain ⟨q, hqk⟩ : ∃ q, Q[k]? = some q := ⟨_, List.getElem?_eq_getElem (by omega)⟩
        obtain ⟨g, off, rfl, hg, hc⟩ := (IW.out _ hB).2.2.resolve_left (by omega)
        obtain ⟨e1, e2⟩ := hc k q hqk
        have HNX := Lib.hid (filter_next (fun q => begB q.1 p) Q k q hqk)
        have hfl := filter_len (fun q => begB q.1 p) Q k
        have HIN := Lib.hid (fun W => show Calls Try.prog 20 #[.string q.1, .string p] W (fun e w' => e = .returned (.bool (begB q.1 p)) ∧ W = w') from begins_any q.1 p W)
        have HR := Lib.hid hrow
        obtain ⟨p1, p2⟩ := q
        simp only at e1 e2 HIN HNX
        clear hqk hc hrow
        generalize hF : (Q.take k).filter (fun q => begB q.1 p) = F at *
        cases hin : begB p1 p with
        | false =>
          rw [hin] at HIN HNX
          simp only [Bool.false_eq_true, if_false, List.append_nil] at HNX
          go_wp2_with (go_at_call 20; refine (HIN.out _).mono ?_; rintro e w7 ⟨rfl, rfl⟩)
          go_roundw
          case rel => exact ⟨k + 1, by omega, by go_num, by rw [HNX.out]; exact HR.out, hB⟩
          case measure => simp [intOf]; omega
        | true =>
          rw [hin] at HIN HNX
          simp only [if_true] at HNX
          go_wp2_with (first
            | (go_at_call 20; refine (HIN.out _).mono ?_; rintro e w7 ⟨rfl, rfl⟩)
            | (at_builtin; refine wpList_append_own _ rfl _ _ 26 rfl w6.heap.size 48 i0 (.agg #[.string ⟨#[]⟩, .string ⟨#[]⟩]) 2 32 Try.underlying26 hi hz0 hz1 hz2 rfl (by decide) _ F.length (pcells F) rfl (HR.out.alloc _) ⟨wr.heap.size, 0, none⟩ 1 1 [.string p1, .string p2] rfl rfl (two_new _ _ _ _) (two_one _ _) (by unfold maxLen; omega) (by omega) (by have := hB.size; simp; omega) ?_; intro v' w8 hown' hgrow hnil))
          have hb8 : Below w6.heap.size w6 w8 := (hB.alloc hB.size _).grown hgrow (by have := hB.size; simp; omega) (fun j e => (HR.out.lt j e).1)
          go_roundw
          case rel => exact ⟨k + 1, by omega, by go_num, by rw [HNX.out, pcells_append, List.length_append]; exact hown', hb8⟩
          case measure => simp [intOf]; omega
      · obtain rfl : k = Q.length := by omega
        have hall : (Q.take Q.length).filter (fun q => begB q.1 p) = begP Q p := by rw [List.take_length]; rfl
        rw [hall] at hrow ⊢
        have IV : Hid (∀ W, Below wr.heap.size wr W → IsPairs W va (begP Q p).length (begP Q p)) := Lib.hid (fun W hb => by
          obtain ⟨a', c', e, h1, _⟩ := prow_is (show PRow wr w6.heap.size _ (begP Q p) from hrow) (begP_small HSM.out p)
          cases e
          exact h1.below hb)
        have hbr := hb36.trans (hB.mono hb36.size)
        have HCN := Lib.hid (fun (W : World) (hb : Below w3.heap.size w3 W) => wcount_any W (HS.out W hb) (by omega) ⟨#[]⟩ p)
        have hw6r := hB.size
        clear hrow hall hk hk2
        have hpart := HPART.out
        obtain ⟨B0, hB0⟩ : ∃ B0, B0 = posP Q p := ⟨_, rfl⟩
        rw [← hB0] at hpart hfit
        have hbe : p = ⟨#[]⟩ → B0 = 0 := fun e => by rw [hB0, e, pos_nil]
        have hct : p ≠ ⟨#[]⟩ → (btwP Q ⟨#[]⟩ p).length = B0 := fun e => by rw [hB0]; exact HAH.out e
        have hQ0 : Q = [] → B0 = 0 ∧ begP Q p = [] := fun e => by
          have h0 : Q.length = 0 := by rw [e]; rfl
          refine ⟨by omega, ?_⟩
          rw [e]; rfl
        clear hB0 HAH HPART
        generalize hX : begP Q p = X at *
        generalize hC : (btwP Q ⟨#[]⟩ p).length = cc at *
        clear hX hC
        have j1 : decide ((Q.length : Int) < (B0 : Int) + (X.length : Int)) = false := decide_eq_false (by omega)
        have j1b : decide (Q.length < X.length) = false := decide_eq_false (by omega)
        have j1c : decide ((Q.length : Int) < (X.length : Int)) = false := decide_eq_false (by omega)
        have j2 : decide (X.length < Y.length) = false := decide_eq_false (by omega)
        have j3 : (B0 : Int) ≤ (B0 : Int) + (X.length : Int) := by omega
        have j4 : (B0 : Int) + (X.length : Int) ≤ (wc : Int) := by omega
        have j5 : (0 : Int) ≤ (B0 : Int) + (X.length : Int) := by omega
        have hwr : IntKind.i64.wrap ((B0 : Int) + (X.length : Int)) = (B0 : Int) + (X.length : Int) := by rw [IntKind.wrap_i64]; omega
        have hqe : ((p.toList == ([] : List UInt8)) = true ∧ B0 = 0) ∨ ((p.toList == ([] : List UInt8)) = false ∧ cc = B0) := by
          have e := strEq p ⟨#[]⟩
          rw [show (⟨#[]⟩ : ByteArray).toList = [] from toList_by _] at e
          by_cases hpe : p = ⟨#[]⟩
          · left; exact ⟨e.trans (decide_eq_true hpe), hbe hpe⟩
          · right; exact ⟨e.trans (decide_eq_false hpe), hct hpe⟩
        clear hbe hct
        have IP : Hid (∀ W, Below w6.heap.size w6 W → wc ≠ B0 → ∀ g, wa = some ⟨g, 0, none⟩ → IsPairs W (some ⟨g, B0 * 2, none⟩) X.length X) := Lib.hid (fun W hb _ g e => by
          have h := IW.out W hb
          rw [e] at h
          have h2 := ispairs_take (ispairs_drop0 h (show B0 ≤ Q.length by omega)) (show X.length ≤ Q.length - B0 by omega)
          rw [hpart] at h2
          exact h2)
        have hx0 : wc = B0 → X = [] := fun e => List.eq_nil_of_length_eq_zero (by omega)
        have hwsh2 : (wa = none ∧ wc = 0 ∧ B0 = 0 ∧ X = []) ∨ ∃ g, wa = some ⟨g, 0, none⟩ := by
          rcases hwsh with ⟨h1, h2, h3⟩ | h
          · obtain ⟨q1, q2⟩ := hQ0 h3
            exact .inl ⟨h1, h2, q1, q2⟩
          · exact .inr h
        clear hwsh hQ0 hpart
        rcases hwsh2 with ⟨rfl, rfl, rfl, rfl⟩ | ⟨g, rfl⟩
        · have hYl : Y.length = 0 := by simpa using LYX
          have IXz : Hid (∀ W, Below w6.heap.size w6 W → IsPairs W xa 0 []) := IX
          rcases hqe with ⟨hq1, hq2⟩ | ⟨hq1, rfl⟩
          all_goals
            go_wp2_with (first
              | (go_at_call 21; refine (HCN.out _ hbr).mono ?_; rintro e w9 ⟨rfl, hb9⟩; have hb39 := hbr.trans (hb9.mono hbr.size))
              | (go_at_call_of 22 (Value.slice va 0 vc); refine (same_of (IX.out _ (hB.trans (hb9.mono hB.size))) (IV.out _ hb9) (by decide)).mono ?_; rintro e w10 ⟨rfl, hb10⟩; have hb6a := (hB.trans (hb9.mono hB.size)).trans (hb10.mono (by have := hb9.size; omega)))
              | (go_at_call 22; refine (same_of (IXz.out _ hb6a) (ispairs_nil _ none (ps := []) rfl) (by decide)).mono ?_; rintro e w11 ⟨rfl, hb11⟩; have hb6b := hb6a.trans (hb11.mono hb6a.size)))
            have hb6c := hb6.trans (hb6b.mono hb6.size)
            have hB0 := Below.refl w11.heap.size w11
            go_loopw [14] (fun i wr => ∃ k : Nat, k ≤ Y.length ∧ i = .int .i64 k ∧ Below w11.heap.size w11 wr) (fun i _ => Y.length - (intOf i).toNat)
            case atStart => exact ⟨0, Nat.zero_le _, rfl, hB0⟩
            case round =>
              clear hB0
              obtain ⟨k, hk, rfl, hBk⟩ := hrel
              by_cases hk2 : k < Y.length
              · exact absurd hk2 (by omega)
              · obtain rfl : k = Y.length := by omega
                go_wp2
                go_ret
                exact ⟨rfl, hb6c.trans (hBk.mono hb6c.size)⟩
        · by_cases hcw : wc = B0
          · obtain rfl := hx0 hcw
            subst hcw
            have hYl : Y.length = 0 := by simpa using LYX
            have IXz : Hid (∀ W, Below w6.heap.size w6 W → IsPairs W xa 0 []) := IX
            rcases hqe with ⟨hq1, rfl⟩ | ⟨hq1, rfl⟩
            all_goals
              go_wp2_with (first
                | (go_at_call 21; refine (HCN.out _ hbr).mono ?_; rintro e w9 ⟨rfl, hb9⟩; have hb39 := hbr.trans (hb9.mono hbr.size))
                | (go_at_call_of 22 (Value.slice va 0 vc); refine (same_of (IX.out _ (hB.trans (hb9.mono hB.size))) (IV.out _ hb9) (by decide)).mono ?_; rintro e w10 ⟨rfl, hb10⟩; have hb6a := (hB.trans (hb9.mono hB.size)).trans (hb10.mono (by have := hb9.size; omega)))
                | (go_at_call 22; refine (same_of (IXz.out _ hb6a) (ispairs_nil _ (some ⟨g, 0, none⟩) (ps := []) rfl) (by decide)).mono ?_; rintro e w11 ⟨rfl, hb11⟩; have hb6b := hb6a.trans (hb11.mono hb6a.size)))
              have hb6c := hb6.trans (hb6b.mono hb6.size)
              have hB0 := Below.refl w11.heap.size w11
              go_loopw [14] (fun i wr => ∃ k : Nat, k ≤ Y.length ∧ i = .int .i64 k ∧ Below w11.heap.size w11 wr) (fun i _ => Y.length - (intOf i).toNat)
              case atStart => exact ⟨0, Nat.zero_le _, rfl, hB0⟩
              case round =>
                clear hB0
                obtain ⟨k, hk, rfl, hBk⟩ := hrel
                by_cases hk2 : k < Y.length
                · exact absurd hk2 (by omega)
                · obtain rfl : k = Y.length := by omega
                  go_wp2
                  go_ret
                  exact ⟨rfl, hb6c.trans (hBk.mono hb6c.size)⟩
          · rcases hqe with ⟨hq1, rfl⟩ | ⟨hq1, rfl⟩
            all_goals
              have hIPx := Lib.hid (fun W (hb : Below w6.heap.size w6 W) => IP.out W hb hcw g rfl)
              go_wp2_with (first
                | (go_at_call 21; refine (HCN.out _ hbr).mono ?_; rintro e w9 ⟨rfl, hb9⟩; have hb39 := hbr.trans (hb9.mono hbr.size))
                | (go_at_call_of 22 (Value.slice va X.length vc); refine (same_of (IX.out _ (hB.trans (hb9.mono hB.size))) (IV.out _ hb9) (by omega)).mono ?_; rintro e w10 ⟨rfl, hb10⟩; have hb6a := (hB.trans (hb9.mono hB.size)).trans (hb10.mono (by have := hb9.size; omega)))
                | (go_at_call 22; refine (same_of (IX.out _ hb6a) (hIPx.out _ hb6a) (by omega)).mono ?_; rintro e w11 ⟨rfl, hb11⟩; have hb6b := hb6a.trans (hb11.mono hb6a.size)))
              have hb6c := hb6.trans (hb6b.mono hb6.size)
              have hB0 := Below.refl w11.heap.size w11
              go_loopw [14] (fun i wr => ∃ k : Nat, k ≤ Y.length ∧ i = .int .i64 k ∧ Below w11.heap.size w11 wr) (fun i _ => Y.length - (intOf i).toNat)
              case atStart => exact ⟨0, Nat.zero_le _, rfl, hB0⟩
              case round =>
                clear hB0
                obtain ⟨k, hk, rfl, hBk⟩ := hrel
                by_cases hk2 : k < Y.length
                · obtain ⟨q, hqk⟩ : ∃ q, Y[k]? = some q := ⟨_, List.getElem?_eq_getElem (by omega)⟩
                  obtain ⟨g2, off2, rfl, hg2, hc2⟩ := (IY.out _ (hb6b.trans (hBk.mono hb6b.size))).2.2.resolve_left (by omega)
                  obtain ⟨e1, e2⟩ := hc2 k q hqk
                  have hbq := HBY.out k q hqk
                  obtain ⟨p1, p2⟩ := q
                  simp only at e1 hbq
                  have HIN := Lib.hid (fun W => show Calls Try.prog 20 #[.string p1, .string (p ++ more)] W (fun e w' => e = .returned (.bool (begB p1 (p ++ more))) ∧ W = w') from begins_any p1 (p ++ more) W)
                  rw [hbq] at HIN
                  clear hc2 hqk e2
                  go_wp2_with (go_at_call 20; refine (HIN.out _).mono ?_; rintro e w12 ⟨rfl, rfl⟩)
                  go_roundw
                  case rel => exact ⟨k + 1, by omega, by go_num, hBk⟩
                  case measure => simp [intOf]; omega
                · obtain rfl : k = Y.length := by omega
                  go_wp2
                  go_ret
                  exact ⟨rfl, hb6c.trans (hBk.mono hb6c.size)⟩

end Go.Proofs.Ytegccicplcjcmaa
