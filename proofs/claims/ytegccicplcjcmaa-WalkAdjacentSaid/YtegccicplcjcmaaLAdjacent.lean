/- Walk: the law WalkAdjacent returns true. -/
import Derived.Test.YtegccicplcjcmaaWL4
namespace Go.Proofs.Ytegccicplcjcmaa
open Go Go.RowKit Go.Shelf Go.Proofs Go.Sort
attribute [local go_sem] Oper.semAt_some

theorem btw_below {ps : PS} (hs : SortedP ps) {s : ByteArray} (h : s ≠ ⟨#[]⟩) : btwP ps ⟨#[]⟩ s = ps.take (posP ps s) := by
  rw [take_pos hs]
  unfold btwP
  apply List.filter_congr
  intro q _
  unfold inB
  rw [klt_nil]
  simp [h]

theorem btw_above {ps : PS} (hs : SortedP ps) (t : ByteArray) : btwP ps t ⟨#[]⟩ = ps.drop (posP ps t) := by
  rw [drop_pos hs]
  unfold btwP
  apply List.filter_congr
  intro q _
  unfold inB
  simp

theorem btw_mid {ps : PS} (hs : SortedP ps) {s t : ByteArray} (ht : t ≠ ⟨#[]⟩) (hst : ¬ by_ t < by_ s) : ps.take (posP ps t) = ps.take (posP ps s) ++ btwP ps s t := by
  have hP : SortedP (ps.take (posP ps t)) := hs.sublist (List.take_sublist _ _)
  have h1 := List.take_append_drop (posP (ps.take (posP ps t)) s) (ps.take (posP ps t))
  rw [take_pos hP, drop_pos hP] at h1
  rw [← h1, take_pos hs, take_pos hs, List.filter_filter, List.filter_filter]
  congr 1
  · apply List.filter_congr
    intro q _
    cases h : klt q.1 s with
    | false => rfl
    | true =>
      have h2 := klt_iff.1 h
      have h3 : klt q.1 t = true := by
        refine klt_iff.2 ?_
        by_cases e : by_ s = by_ t
        · rw [← e]; exact h2
        · exact lex_trans h2 (lex_tri hst (fun e2 => e e2.symm))
      simp [h3]
  · unfold btwP
    apply List.filter_congr
    intro q _
    unfold inB
    simp [ht]

theorem adjacent {ps : PS} (hs : SortedP ps) {s t : ByteArray} (h : s ≠ ⟨#[]⟩) (ht : t ≠ ⟨#[]⟩) (hst : ¬ by_ t < by_ s) : btwP ps ⟨#[]⟩ s ++ btwP ps s t ++ btwP ps t ⟨#[]⟩ = ps := by
  rw [btw_below hs h, ← btw_mid hs ht hst, btw_above hs, List.take_append_drop]

/-- What holds of a pair of a range. -/
theorem btw_facts {ps : PS} (hs : SortedP ps) {s t : ByteArray} (ht : t ≠ ⟨#[]⟩) {i : Nat} {q : ByteArray × ByteArray} (h : (btwP ps s t)[i]? = some q) :
    getP ps q.1 = some q.2 ∧ Op.bytesLess q.1.toList s.toList = false ∧ Op.bytesLess q.1.toList t.toList = true := by
  have h1 := List.mem_filter.1 (List.mem_of_getElem? h)
  have h2 : inB q.1 s t = true := h1.2
  unfold inB at h2
  simp only [ht, decide_false, Bool.false_or, Bool.and_eq_true, Bool.not_eq_true'] at h2
  have hb : ∀ a b : ByteArray, Op.bytesLess a.toList b.toList = klt a b := fun a b => by unfold klt; rw [bytesLess_eq, toList_by, toList_by]
  exact ⟨getP_of_mem hs h1.1, by rw [hb]; exact h2.1, by rw [hb]; exact h2.2⟩

theorem btw_step {ps : PS} (hs : SortedP ps) {s t : ByteArray} {i : Nat} {q r : ByteArray × ByteArray} (h : (btwP ps s t)[i]? = some q) (h2 : (btwP ps s t)[i + 1]? = some r) :
    Op.bytesLess q.1.toList r.1.toList = true ∧ Op.bytesLess r.1.toList q.1.toList = false ∧ (r.1.toList == q.1.toList) = false := by
  have hb : SortedP (btwP ps s t) := hs.sublist List.filter_sublist
  have h3 := sorted_lt hb h h2 (by omega)
  rw [bytesLess_eq, bytesLess_eq, toList_by, toList_by]
  refine ⟨decide_eq_true h3, decide_eq_false (lex_asymm h3), ?_⟩
  refine beq_eq_false_iff_ne.2 (fun e => ?_)
  rw [e] at h3
  exact lex_irrefl _ h3

set_option linter.unusedVariables false in
set_option maxRecDepth 100000 in
set_option maxHeartbeats 8000000 in
theorem law_WalkAdjacent (a : Option Addr) (len cap : Nat) (ds : List Deed) (s : ByteArray) (hs : s.size ≤ 140737488351232) (t : ByteArray) (ht : t.size ≤ 140737488351232) (w : World) (hds : IsDeeds w a len ds) :
    Calls Try.prog 6 #[.slice a len cap, .string s, .string t] w fun e w' => e = .returned (.bool true) ∧ Below w.heap.size w w' := by
  have hnil : (⟨#[]⟩ : ByteArray).toList = [] := toList_by _
  have hse := strEq s ⟨#[]⟩
  rw [hnil] at hse
  by_cases h1 : 200 < s.size
  · have i1 : (200 : Int) < (s.size : Int) := by omega
    clear hse
    go_enter Try.func6, Try.ntmps6
    go_wp2_with (go_at_call 14; refine (awake_any _).mono ?_; rintro e w3 ⟨rfl, hb3⟩)
    go_ret
    exact ⟨rfl, hb3⟩
  have i1 : decide ((200 : Int) < (s.size : Int)) = false := decide_eq_false (by omega)
  by_cases h2 : 200 < t.size
  · have i2 : (200 : Int) < (t.size : Int) := by omega
    clear hse
    go_enter Try.func6, Try.ntmps6
    go_wp2_with (go_at_call 14; refine (awake_any _).mono ?_; rintro e w3 ⟨rfl, hb3⟩)
    go_ret
    exact ⟨rfl, hb3⟩
  have i2 : decide ((200 : Int) < (t.size : Int)) = false := decide_eq_false (by omega)
  by_cases h3 : s = ⟨#[]⟩
  · rw [decide_eq_true h3] at hse
    go_enter Try.func6, Try.ntmps6
    go_wp2_with (go_at_call 14; refine (awake_any _).mono ?_; rintro e w3 ⟨rfl, hb3⟩)
    go_ret
    exact ⟨rfl, hb3⟩
  rw [decide_eq_false h3] at hse
  have hts : Op.bytesLess t.toList s.toList = decide (by_ t < by_ s) := by rw [bytesLess_eq, toList_by, toList_by]
  by_cases h4 : by_ t < by_ s
  · rw [decide_eq_true h4] at hts
    go_enter Try.func6, Try.ntmps6
    go_wp2_with (go_at_call 14; refine (awake_any _).mono ?_; rintro e w3 ⟨rfl, hb3⟩)
    go_ret
    exact ⟨rfl, hb3⟩
  rw [decide_eq_false h4] at hts
  have h5 : t ≠ ⟨#[]⟩ := by
    rintro rfl
    have h6 : by_ s ≠ [] := fun e => h3 (by_inj e)
    cases hq : by_ s with
    | nil => exact h6 hq
    | cons x r => exact h4 (by rw [hq]; exact nil_lt x r)
  have HBD := Lib.hid (fun W (hb : Below w.heap.size w W) => built_any W a len cap ds (hds.below hb))
  have hQl := bothQ_len (ps := []) List.Pairwise.nil ds
  simp only [List.length_nil, Nat.zero_add] at hQl
  generalize bothQ [] ds = Q at HBD hQl
  have HADJ := Lib.hid (fun (hq : SortedP Q) => adjacent hq h3 h5 h4)
  have HFA := Lib.hid (fun (hq : SortedP Q) i q => btw_facts hq (s := s) h5 (i := i) (q := q))
  clear hds h1 h2 h3 h4 h5
  go_enter Try.func6, Try.ntmps6
  go_wp2_with (first
    | (go_at_call 14; refine (awake_any _).mono ?_; rintro e w2 ⟨rfl, hb2⟩)
    | (go_at_call 17; refine (HBD.out _ hb2).mono ?_; rintro e w3 ⟨b, m, v, rfl, hA3, hb23⟩; have hb3 := hb2.trans (hb23.mono hb2.size); have hA3' := Lib.hid hA3; have HS := Lib.hid (fun W (hb : Below w3.heap.size w3 W) => Src.art (hA3.below hb)); have hsm := Lib.hid ((HS.out w3 (Below.refl _ _)).small'); clear hA3 hb23)
    | (go_at_call_of 23 (Value.string ⟨#[]⟩); go_at_call_of 23 (Value.string s); refine (wbetween_any _ (HS.out _ (Below.refl _ _)) (by omega) ⟨#[]⟩ s).mono ?_; rintro e w4 ⟨xv, rfl, hx4, hb34⟩; obtain ⟨xa, xc, rfl⟩ := row2_slice hx4)
    | (go_at_call_of 23 (Value.string s); go_at_call_of 23 (Value.string t); refine (wbetween_any _ (HS.out _ hb34) (by omega) s t).mono ?_; rintro e w5 ⟨yv, rfl, hy5, hb45⟩; have hb35 := hb34.trans (hb45.mono hb34.size); obtain ⟨ya, yc, rfl⟩ := row2_slice hy5)
    | (go_at_call_of 23 (Value.string t); refine (wbetween_any _ (HS.out _ hb35) (by omega) t ⟨#[]⟩).mono ?_; rintro e w6 ⟨zv, rfl, hz6, hb56⟩; have hb36 := hb35.trans (hb56.mono hb35.size); obtain ⟨za, zc, rfl⟩ := row2_slice hz6
       have hso := (HS.out w3 (Below.refl _ _)).sorted
       obtain ⟨hxp, hxl, hxl2, hxsh⟩ := prow_in (prow_below hb56 (prow_below hb45 hx4)) (btwP_small hsm.out ⟨#[]⟩ s)
       obtain ⟨hyp, hyl, hyl2, hysh⟩ := prow_in (prow_below hb56 hy5) (btwP_small hsm.out s t)
       obtain ⟨hzp, hzl, hzl2, hzsh⟩ := prow_in hz6 (btwP_small hsm.out t ⟨#[]⟩)
       have hxn : xa = none → xc = 0 := fun e => hxsh.elim (fun h => h.2.1) (fun ⟨g, h⟩ => by rw [h] at e; cases e)
       have hyn : ya = none → yc = 0 := fun e => hysh.elim (fun h => h.2.1) (fun ⟨g, h⟩ => by rw [h] at e; cases e)
       have hzn : za = none → zc = 0 := fun e => hzsh.elim (fun h => h.2.1) (fun ⟨g, h⟩ => by rw [h] at e; cases e)
       have HXI := Lib.hid (fun W (hb : Below w6.heap.size w6 W) => hxp.below hb)
       have HYI := Lib.hid (fun W (hb : Below w6.heap.size w6 W) => hyp.below hb)
       have HZI := Lib.hid (fun W (hb : Below w6.heap.size w6 W) => hzp.below hb)
       have HXN := Lib.hid hxn
       have HYN := Lib.hid hyn
       have HZN := Lib.hid hzn
       have HEM := Lib.hid (HADJ.out hso)
       have HFB := Lib.hid (HFA.out hso)
       have HST := Lib.hid (fun i q r => btw_step hso (s := s) (t := t) (i := i) (q := q) (r := r))
       have LY := btwP_len Q s t
       have HEl : Hid ((btwP Q ⟨#[]⟩ s).length + (btwP Q s t).length + (btwP Q t ⟨#[]⟩).length = Q.length) := Lib.hid (by have := congrArg List.length HEM.out; rw [List.length_append, List.length_append] at this; exact this)
       have hEl := HEl.out
       generalize btwP Q ⟨#[]⟩ s = X at *
       generalize btwP Q t ⟨#[]⟩ = Z at *
       obtain ⟨Y, hY⟩ : ∃ Y, btwP Q s t = Y := ⟨_, rfl⟩
       have HYE := Lib.hid hY
       rw [hY] at HFB HST LY HEl hEl HEM HYI hyl
       rw [hY]
       clear hY
       clear hx4 hy5 hz6 hxp hyp hzp hxsh hysh hzsh hxn hyn hzn HADJ HFA
       have hb7' := (Below.refl w6.heap.size w6).alloc (Nat.le_refl _) (.cells #[] 48))
    | (at_builtin; refine wpList_appP _ rfl _ _ rfl w6.heap.size w6.heap.size 0 0 [] rfl (pown_zero w6 _ (Nat.le_refl _)) _ _ _ X rfl HXN.out (HXI.out _ hb7') (by simp) (by omega) ?_; intro g7 k7 w7 hown7 hgr7; have hb7 : Below w6.heap.size w6 w7 := hb7'.grown hgr7 (by simp) (fun k e => by cases e; exact Nat.le_refl _); rw [Nat.zero_add, List.nil_append] at hown7; clear hb7')
    | (at_builtin; refine wpList_appP _ rfl _ _ rfl w6.heap.size g7 X.length k7 X rfl hown7 _ _ _ Y rfl HYN.out (HYI.out _ hb7) hb7.size (by omega) ?_; intro g8 k8 w8 hown8 hgr8; have hb8 : Below w6.heap.size w6 w8 := hb7.grown hgr8 hb7.size (fun k e => by cases e; exact (hown7.lt _ rfl).1); clear hown7 hgr7)
    | (at_builtin; refine wpList_appP _ rfl _ _ rfl w6.heap.size g8 (X.length + Y.length) k8 (X ++ Y) rfl hown8 _ _ _ Z rfl HZN.out (HZI.out _ hb8) hb8.size (by omega) ?_; intro g9 k9 w9 hown9 hgr9; have hb9 : Below w6.heap.size w6 w9 := hb8.grown hgr9 hb8.size (fun k e => by cases e; exact (hown8.lt _ rfl).1); rw [HEl.out] at hown9 ⊢; rw [HEM.out] at hown9; have hb39 := hb36.trans (hb9.mono hb36.size); have HI9 := Lib.hid (prow_in (show PRow w9 w6.heap.size _ Q from hown9) hsm.out).1; clear hown8 hgr8 hown9 hgr9)
    | (go_at_call 19; refine (wall_any _ (hA3'.out.below hb39) (by omega)).mono ?_; rintro e w10 ⟨wv, rfl, hw10, hb910⟩; obtain ⟨wa, wc, rfl⟩ := row2_slice hw10; have HI10 := Lib.hid (prow_in hw10 hsm.out).1; have hb310 := hb39.trans (hb910.mono hb39.size); clear hw10)
    | (go_at_call 22; refine (same_of (HI9.out.below hb910) HI10.out (by omega)).mono ?_; rintro e w11 ⟨rfl, hb1011⟩; have hb311 := hb310.trans (hb1011.mono hb310.size))
    | (go_at_call 24; refine (src_len (HS.out _ hb311) (by omega)).mono ?_; rintro e w12 ⟨rfl, rfl⟩)
    | (go_at_call 21; refine (wcount_any _ (HS.out _ hb311) (by omega) s t).mono ?_; rintro e w13 ⟨rfl, hb1113⟩; rw [HYE.out]; have hb313 := hb311.trans (hb1113.mono hb311.size)))
  have hb613 : Below w6.heap.size w6 w13 := hb9.trans ((hb910.trans ((hb1011.trans (hb1113.mono hb1011.size)).mono hb910.size)).mono hb9.size)
  have hb13 := hb3.trans (hb313.mono hb3.size)
  have hB0 := Below.refl w13.heap.size w13
  go_loopw [12] (fun i wr => ∃ k : Nat, k ≤ Y.length ∧ i = .int .i64 k ∧ Below w13.heap.size w13 wr) (fun i _ => Y.length - (intOf i).toNat)
  case atStart => exact ⟨0, Nat.zero_le _, rfl, hB0⟩
  case round =>
    clear hB0
    obtain ⟨k, hk, rfl, hBk⟩ := hrel
    by_cases hk2 : k < Y.length
    · obtain ⟨q, hqk⟩ : ∃ q, Y[k]? = some q := ⟨_, List.getElem?_eq_getElem hk2⟩
      have hb6k := hb613.trans (hBk.mono hb613.size)
      have hb3k := hb313.trans (hBk.mono hb313.size)
      obtain ⟨g, off, rfl, hg, hc⟩ := (HYI.out _ hb6k).2.2.resolve_left (by omega)
      obtain ⟨f1, f2, f3⟩ := HFB.out k q hqk
      have hq1 := ((HYI.out _ hb6k).2.1 q (List.mem_of_getElem? hqk)).1
      have HG := Lib.hid (aget_any wr (hA3'.out.below hb3k) q.1 hq1)
      have hgv : agetV Q q.1 = q.2 := by unfold agetV; rw [f1]; rfl
      rw [hgv, f1] at HG
      obtain ⟨e1, e2⟩ := hc k q hqk
      have hvv : (q.2.toList == q.2.toList) = true := by simp
      have HCL := Lib.hid (fun W (hb : Below wr.heap.size wr W) => show W.cell? ⟨g, off + k * 2, none⟩ = some (.string q.1) ∧ W.cell? ⟨g, off + k * 2 + 1, none⟩ = some (.string q.2) from
        ⟨(hb.cell (p := ⟨g, off + k * 2, none⟩) hg).trans e1, (hb.cell (p := ⟨g, off + k * 2 + 1, none⟩) hg).trans e2⟩)
      rcases Nat.eq_zero_or_pos k with h0 | h0
      · subst h0
        obtain ⟨q1, q2⟩ := q
        simp only [Option.isSome_some] at *
        simp only [Nat.zero_mul, Nat.add_zero] at e1 e2 HCL
        clear hc hqk hgv f1
        go_wp2_with (go_at_call 25; refine HG.out.mono ?_; clear HG; rintro e w14 ⟨rfl, hb14⟩; obtain ⟨d1, d2⟩ := HCL.out _ hb14; have d1r := fun d os => cell_regrown d1 d os; have d2r := fun d os => cell_regrown d2 d os)
        refine wp_region_quiet_below (by kernel_rfl) (by kernel_rfl) ?_
        repeat (go_big_quiet_step (fail))
        refine wpQuiet_nil ?_
        intro _ hw'
        obtain ⟨⟨dq, osq⟩, hw''⟩ := hw'
        subst hw''
        have hb15 := hBk.trans ((hb14.trans ((below_regrown w14 dq osq).mono hb14.size)).mono hBk.size)
        go_wp2
        go_roundw
        case rel => exact ⟨0 + 1, by omega, by go_num, hb15⟩
        case measure => simp [intOf]; omega
      · obtain ⟨j, rfl⟩ : ∃ j, k = j + 1 := ⟨k - 1, by omega⟩
        obtain ⟨r, hrj⟩ : ∃ r, Y[j]? = some r := ⟨_, List.getElem?_eq_getElem (by omega)⟩
        obtain ⟨hst, hst2, hst3⟩ := HST.out j r q hrj hqk
        obtain ⟨e3, _⟩ := hc j r hrj
        have HCJ := Lib.hid (fun W (hb : Below wr.heap.size wr W) => show W.cell? ⟨g, off + j * 2, none⟩ = some (.string r.1) from (hb.cell (p := ⟨g, off + j * 2, none⟩) hg).trans e3)
        have hjj : ((j + 1 : Nat) : Int) - 1 = (j : Int) := by omega
        have hpos : decide ((0 : Int) < ((j + 1 : Nat) : Int)) = true := decide_eq_true (by omega)
        have hwr : IntKind.i64.wrap (((j + 1 : Nat) : Int) - 1) = (j : Int) := by rw [IntKind.wrap_i64]; omega
        have hj1 : (0 : Int) ≤ (j : Int) := by omega
        have hj2 : (j : Int) < (Y.length : Int) := by omega
        obtain ⟨q1, q2⟩ := q
        obtain ⟨r1, r2⟩ := r
        simp only [Option.isSome_some] at *
        clear hc hqk hgv f1 hrj
        go_wp2_with (go_at_call 25; refine HG.out.mono ?_; clear HG; rintro e w14 ⟨rfl, hb14⟩; obtain ⟨d1, d2⟩ := HCL.out _ hb14; have d3 := HCJ.out _ hb14; have d1r := fun d os => cell_regrown d1 d os; have d2r := fun d os => cell_regrown d2 d os; have d3r := fun d os => cell_regrown d3 d os)
        refine wp_region_quiet_below (by kernel_rfl) (by kernel_rfl) ?_
        repeat (go_big_quiet_step (fail))
        refine wpQuiet_nil ?_
        intro _ hw'
        obtain ⟨⟨dq, osq⟩, hw''⟩ := hw'
        subst hw''
        have hb15 := hBk.trans ((hb14.trans ((below_regrown w14 dq osq).mono hb14.size)).mono hBk.size)
        go_wp2
        refine ⟨⟨j + 1 + 1, by omega, by go_num, hb15⟩, ?_⟩
        simp [intOf]
        omega
    · obtain rfl : k = Y.length := by omega
      go_wp2
      go_ret
      exact ⟨rfl, hb13.trans (hBk.mono hb13.size)⟩

end Go.Proofs.Ytegccicplcjcmaa
