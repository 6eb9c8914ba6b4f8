/- Walk of code.Decode: the whole. -/
import Derived.Test.YtegccicplcjcmaaCode6
namespace Go.Proofs.Ytegccicplcjcmaa
open Go Go.RowKit Go.Shelf Go.Proofs Go.Sort
attribute [local go_sem] Oper.semAt_some

/-- What lies in Decode's blocks when a round has left by a return. -/
def DecX (w : World) (s : ByteArray) (rec : LoopState → Option Code → Loop) (W : World) : Prop :=
  Boxed W w.heap.size 9 (.string ⟨#[]⟩) ∧ Boxed W (w.heap.size + 1) 29 (.int .i64 4) ∧
  W.heap[w.heap.size + 1 + 1 + 1 + 1 + 1]? = some (.deferred (some [])) ∧ W.heap[w.heap.size + 1 + 1 + 1 + 1 + 1 + 1]? = some (.loop (rec .done (some .ret))) ∧ Below w.heap.size w W ∧ 16 < (scanL (by_ s)).1.length

theorem decV_long {s : ByteArray} (h : 16 < (scanL (by_ s)).1.length) : decV s = .tuple #[.string ⟨#[]⟩, .int .i64 4] := by
  have : decL (by_ s) = none := by
    unfold decL
    cases hx : scanL (by_ s) with
    | mk xs o =>
      rw [hx] at h
      rcases o with _ | ⟨_ | ⟨a, r⟩⟩
      · rfl
      · simp at h ⊢; omega
      · rfl
  unfold decV
  rw [this]
theorem decV_none {s : ByteArray} (h : (scanL (by_ s)).2 = none) : decV s = .tuple #[.string ⟨#[]⟩, .int .i64 4] := by
  have : decL (by_ s) = none := by
    unfold decL
    cases hx : scanL (by_ s) with
    | mk xs o =>
      rw [hx] at h
      simp at h
      subst h
      rfl
  unfold decV
  rw [this]
theorem decV_more {s : ByteArray} {xs : List UInt8} {a : UInt8} {r : List UInt8} (h : scanL (by_ s) = (xs, some (a :: r))) : decV s = .tuple #[.string ⟨#[]⟩, .int .i64 4] := by
  have : decL (by_ s) = none := by unfold decL; rw [h]
  unfold decV
  rw [this]
theorem decV_ok {s : ByteArray} {xs : List UInt8} (h : scanL (by_ s) = (xs, some [])) (hl : xs.length ≤ 16) : decV s = .tuple #[.string (bs xs), .int .i64 0] := by
  have : decL (by_ s) = some xs := by unfold decL; rw [h]; simp [hl]
  unfold decV
  rw [this]

set_option maxRecDepth 100000 in
set_option maxHeartbeats 4000000 in
theorem decode_any (s : ByteArray) (w : World) (hs : s.size ≤ 281474976710656) :
    Calls Try.prog 53 #[.string s] w fun e w' => e = .returned (decV s) ∧ Below w.heap.size w w' := by
  have hmf : ∀ (fn : Fn) (first cap : Array Value) (w : World), (Instr.makeFunc fn first cap).run Try.prog w = .ok (.func fn first cap) w := fun _ _ _ _ => rfl
  obtain ⟨i0, hi, hz0, hz1, hz2⟩ := info_parts infoU8
  refine (callsIn_wide (n := 6)).1 ?_
  refine callsIn_of_wp_marks Try.func53 rfl trivial ?_ rfl
  simp only [Try.ntmps53, List.size_toArray, List.length_cons, List.length_nil, Nat.reduceAdd, Nat.reduceSub, Array.replicate_succ, Array.replicate_zero, List.push_toArray, List.append_toArray, List.nil_append, List.cons_append]
  gi_wp2_with (refine ⟨trivial, ?_⟩; gi_at_call 68; refine (callsIn_wide.2 (key_any _ _)).mono ?_; rintro e w' ⟨rfl, rfl⟩)
  obtain ⟨W0, hW0⟩ : ∃ W0, (((((w.alloc (Obj.cells #[Value.string { data := #[] }] 9)).alloc (Obj.cells #[Value.int IntKind.i64 0] 29)).alloc
              (Obj.cells #[Value.string s, Value.int IntKind.i64 0] 136)).alloc (Obj.cells #[Value.slice none 0 0] 130)).alloc (Obj.cells #[Value.pointer (some { block := w.heap.size + 1 + 1, off := 0 })] 132)) = W0 := ⟨_, rfl⟩
  have hsz : W0.heap.size = w.heap.size + 1 + 1 + 1 + 1 + 1 := by rw [← hW0]; simp
  have hC0 : ∀ o, DecC w s [] 0 ((W0.alloc (.deferred (some []))).alloc o) := by
    intro o
    have hlt : w.heap.size + 1 + 1 + 1 + 1 + 1 ≤ W0.heap.size := by omega
    have hnew := World.alloc_heap_new W0 (.deferred (some []))
    rw [hsz] at hnew
    have key : ∀ j ob, W0.heap[j]? = some ob → ((W0.alloc (.deferred (some []))).alloc o).heap[j]? = some ob := fun j ob h => by
      have hj := (Array.getElem?_eq_some_iff.1 h).1
      rw [Below.heap_alloc _ _ _ (by simp; omega), Below.heap_alloc _ _ _ hj, h]
    have key1 : ∀ (X : World) (ob ob' : Obj) (j : Nat), X.heap[j]? = some ob → (X.alloc ob').heap[j]? = some ob := fun X ob ob' j h => (Below.heap_alloc _ _ _ (Array.getElem?_eq_some_iff.1 h).1).trans h
    have n0 := World.alloc_heap_new w (Obj.cells #[Value.string { data := #[] }] 9)
    have n1 := World.alloc_heap_new (w.alloc (Obj.cells #[Value.string { data := #[] }] 9)) (Obj.cells #[Value.int IntKind.i64 0] 29)
    have n2 := World.alloc_heap_new ((w.alloc (Obj.cells #[Value.string { data := #[] }] 9)).alloc (Obj.cells #[Value.int IntKind.i64 0] 29)) (Obj.cells #[Value.string s, Value.int IntKind.i64 0] 136)
    have n3 := World.alloc_heap_new (((w.alloc (Obj.cells #[Value.string { data := #[] }] 9)).alloc (Obj.cells #[Value.int IntKind.i64 0] 29)).alloc (Obj.cells #[Value.string s, Value.int IntKind.i64 0] 136)) (Obj.cells #[Value.slice none 0 0] 130)
    have n4 := World.alloc_heap_new ((((w.alloc (Obj.cells #[Value.string { data := #[] }] 9)).alloc (Obj.cells #[Value.int IntKind.i64 0] 29)).alloc (Obj.cells #[Value.string s, Value.int IntKind.i64 0] 136)).alloc (Obj.cells #[Value.slice none 0 0] 130)) (Obj.cells #[Value.pointer (some { block := w.heap.size + 1 + 1, off := 0 })] 132)
    simp only [World.size_alloc] at n1 n2 n3 n4
    have hb : Below w.heap.size w W0 := by
      rw [← hW0]
      exact (((((Below.refl _ w).alloc (Nat.le_refl _) _).alloc (by simp) _).alloc (by simp; omega) _).alloc (by simp; omega) _).alloc (by simp; omega) _
    rw [← hW0] at key
    refine ⟨?_, ?_, ?_, ⟨.slice none 0 0, ?_, ?_, .inl rfl⟩, ?_, ?_, (hb.alloc (by omega) _).alloc (by simp; omega) _⟩
    all_goals rw [← hW0]
    · exact key _ _ (key1 _ _ _ _ (key1 _ _ _ _ (key1 _ _ _ _ (key1 _ _ _ _ n0))))
    · exact key _ _ (key1 _ _ _ _ (key1 _ _ _ _ (key1 _ _ _ _ n1)))
    · exact key _ _ (key1 _ _ _ _ (key1 _ _ _ _ n2))
    · exact key _ _ (key1 _ _ _ _ n3)
    · exact World.ownsRow_nil _ _ _ _
    · exact key _ _ n4
    · rw [hW0]
      exact (Below.heap_alloc _ _ _ (by simp; omega)).trans hnew
  rw [hW0]
  clear hW0
  refine rangeFunc_open rfl (by omega) (gf := 96) (lb := #[.pointer (some ⟨w.heap.size + 1 + 1 + 1 + 1, 0, none⟩)]) rfl trivial (enters_of Try.func96 (by kernel_rfl) rfl) ?_
  intro fn hfn
  rw [hsz]
  generalize hrec : recOf fn _ _ _ _ _ = rec
  have hst : ∀ st pe, (rec st pe).state = st := by intro st pe; rw [← hrec]; rfl
  have hpe : ∀ st pe, (rec st pe).pending = pe := by intro st pe; rw [← hrec]; rfl
  have hup : ∀ st pe st' pe', ({ rec st pe with state := st', pending := pe' } : Loop) = rec st' pe' := by intro st pe st' pe'; rw [← hrec]; rfl
  have hup1 : ({ rec .ready none with state := .busy } : Loop) = rec .busy none := by rw [← hrec]; rfl
  refine (key1_in (6 - 1) (by omega) (w.heap.size + 1 + 1 + 1 + 1 + 1 + 1) (w.heap.size + 1 + 1 + 1 + 1) (w.heap.size + 1 + 1) s hs
    (fun pre k W => DecC w s pre k W ∧ W.heap[w.heap.size + 1 + 1 + 1 + 1 + 1 + 1]? = some (.loop (rec .ready none)) ∧ pre.length ≤ 16)
    (DecX w s rec) ?jb ?js ?jc ?jy _ ?j0).mono ?post
  case jb =>
    rintro pre k W W' ⟨a, b, c⟩ hb
    exact ⟨decC_below a hb, (hb.block _ (Array.getElem?_eq_some_iff.1 b).1).trans b, c⟩
  case js =>
    rintro pre k W ⟨a, b, c⟩
    exact ⟨decC_next a, (Below.heap_setCell _ _ _ _ (by simp; omega)).trans b, c⟩
  case jc =>
    rintro pre k W ⟨a, _, _⟩
    exact decC_cells a
  case j0 =>
    refine ⟨hC0 _, ?_, by simp⟩
    have := World.alloc_heap_new (W0.alloc (.deferred (some []))) (.loop (rec .ready none))
    rwa [World.size_alloc, hsz] at this
  case jy =>
    rintro pre k b W ⟨hc, hl, hlen⟩ hpre
    have hl' := hl
    rw [← hrec] at hl'
    refine yield_open hl' rfl hfn ?_
    clear hl' hC0
    gi_wp2
    have hpb := run_beginRound (P := Try.prog) hl (hst _ _)
    rw [hup1] at hpb
    refine ⟨_, hpb, ?_⟩
    clear hpb
    have hlt := (Array.getElem?_eq_some_iff.1 hl).1
    have hl2 := World.putObj_heap_same (w := W) (o := .loop (rec .busy none)) hlt
    have hc2 := decC_put hc (.loop (rec .busy none)) (by omega) hl rfl
    generalize W.putObj (w.heap.size + 1 + 1 + 1 + 1 + 1 + 1) (.loop (rec .busy none)) = W2 at hc2 hl2 ⊢
    clear hc hl hlt
    have hlt2 := decC_lt hc2
    obtain ⟨v, hv, hrow, hn⟩ := hc2.2.2.2.1
    have kv := hv.cell
    have kva := fun o => (hv.alloc o).cell
    have HL := Lib.hid (fun W3 (hk : KeepsOthers W2 W3) => hk.same _ _ hl2 rfl)
    have HC := Lib.hid hc2
    have HP := Lib.hid hpre
    clear hc2 hpre hl2
    by_cases h16 : pre.length + 1 ≤ 16
    · have hd : decide ((16 : Int) < (pre.length : Int) + 1) = false := decide_eq_false (by omega)
      gi_wp2_with (gi_at_builtin; refine wpListIn_append_own _ rfl _ _ 130 rfl w.heap.size 5 i0 (.int .u8 0) 1 1 Try.underlying130 hi hz0 hz1 hz2 rfl (by decide) v pre.length (u8s pre) rfl (hrow.alloc _) ⟨W2.heap.size, 0, none⟩ 1 1 [.int .u8 (b.toNat : Nat)] rfl rfl (cell_one_new' _ _ _) (by simp [Value.oneCell']) (by unfold maxLen; omega) (by omega) (by simp; omega) ?_; intro v' w1 hown' hgrow hnil; obtain ⟨g', cap', rfl⟩ := (own_none_or hown').resolve_left (fun e => by have := (hnil.1 e).2; omega); have HA := Lib.hid (decC_app HC.out hv hrow hown' hgrow (.inr ⟨g', cap', rfl⟩)); have hv1 := (hv.alloc _).kept hgrow (hv.not_row (by decide) hrow); have k1 := hv1.cell; have f1 := hv1.frozen; have k2 := (hv1.set (.slice (some ⟨g', 0, none⟩) (pre.length + 1) cap')).cell)
      have hl3 := HL.out _ HA.out.2
      refine ⟨_, _, run_endRound none hl3, .inl ⟨rfl, decC_put HA.out.1 _ (by omega) hl3 rfl, ?_, by omega⟩⟩
      rw [World.putObj_heap_same (Array.getElem?_eq_some_iff.1 hl3).1]
      simp [hup]
    · have hd : decide ((16 : Int) < (pre.length : Int) + 1) = true := decide_eq_true (by omega)
      gi_wp2_with (gi_at_builtin; refine wpListIn_append_own _ rfl _ _ 130 rfl w.heap.size 5 i0 (.int .u8 0) 1 1 Try.underlying130 hi hz0 hz1 hz2 rfl (by decide) v pre.length (u8s pre) rfl (hrow.alloc _) ⟨W2.heap.size, 0, none⟩ 1 1 [.int .u8 (b.toNat : Nat)] rfl rfl (cell_one_new' _ _ _) (by simp [Value.oneCell']) (by unfold maxLen; omega) (by omega) (by simp; omega) ?_; intro v' w1 hown' hgrow hnil; obtain ⟨g', cap', rfl⟩ := (own_none_or hown').resolve_left (fun e => by have := (hnil.1 e).2; omega); have HA := Lib.hid (decC_app HC.out hv hrow hown' hgrow (.inr ⟨g', cap', rfl⟩)); have hv1 := (hv.alloc _).kept hgrow (hv.not_row (by decide) hrow); have k1 := hv1.cell; have f1 := hv1.frozen; have b0 := HA.out.1.1; have b1 := HA.out.1.2.1; have c0 := b0.cell; have c1 := b1.cell; have d0 := b0.frozen; have d1 := b1.frozen; have k2 := (hv1.set (.slice (some ⟨g', 0, none⟩) (pre.length + 1) cap')).cell)
      have hl3 := HL.out _ (HA.out.2.trans ((KeepsOthers.setCell _ ⟨w.heap.size, 0, none⟩ (.string ⟨#[]⟩)).trans (KeepsOthers.setCell _ ⟨w.heap.size + 1, 0, none⟩ (.int .i64 4))))
      have hD3 := ((KeepsOthers.setCell _ ⟨w.heap.size, 0, none⟩ (.string ⟨#[]⟩)).trans (KeepsOthers.setCell _ ⟨w.heap.size + 1, 0, none⟩ (.int .i64 4))).same _ _ HA.out.1.2.2.2.2.2.1 rfl
      have e0 := (b0.set (.string ⟨#[]⟩)).kept (grownBy_setCell' _ (w.heap.size + 1) (.int .i64 4)) (by simp)
      have e1 := (b1.kept (grownBy_setCell' _ w.heap.size (.string ⟨#[]⟩)) (by simp)).set (.int .i64 4)
      have eB := (HA.out.1.2.2.2.2.2.2.setCell (p := ⟨w.heap.size, 0, none⟩) (Nat.le_refl _) (.string ⟨#[]⟩)).setCell (p := ⟨w.heap.size + 1, 0, none⟩) (Nat.le_succ _) (.int .i64 4)
      have hlt3 := (Array.getElem?_eq_some_iff.1 hl3).1
      refine ⟨_, _, run_endRound (some .ret) hl3, .inr ⟨rfl, boxed_putNon e0 _ hl3 rfl, boxed_putNon e1 _ hl3 rfl, (World.putObj_heap_other (by omega)).trans hD3, ?_, eB.grown (grownBy_putObj' _ _ _) (by omega) (fun k e => by cases e; omega), ?_⟩⟩
      · rw [World.putObj_heap_same hlt3]
        simp [hup]
      · have := HP.out.length_le
        rw [List.length_append, List.length_singleton] at this
        omega
  case post =>
    rintro e W' (⟨⟨v, rfl⟩, (⟨xs, r, hsc, hrl, hc, hl, hlen⟩ | hx)⟩ | ⟨rfl, hno, pre, k, hc, hl, hlen⟩)
    · have hrun : (Instr.endLoop (w.heap.size + 1 + 1 + 1 + 1 + 1 + 1)).run Try.prog W' = .ok none (W'.putObj (w.heap.size + 1 + 1 + 1 + 1 + 1 + 1) (.loop (rec .exhausted none))) := by
        rw [← hrec] at hl ⊢
        exact run_endLoop hl (by simp [recOf])
      refine ⟨none, _, hrun, ?_⟩
      have hc4 := decC_put hc (.loop (rec .exhausted none)) (by omega) hl rfl
      clear hrun
      generalize W'.putObj (w.heap.size + 1 + 1 + 1 + 1 + 1 + 1) (.loop (rec .exhausted none)) = W4 at hc4 ⊢
      clear hc hl
      have hlt2 := decC_lt hc4
      obtain ⟨v4, hv, hrow, hn⟩ := hc4.2.2.2.1
      have kv := hv.cell
      obtain ⟨-, kp, -, -⟩ := decC_cells hc4
      have b0 := hc4.1
      have b1 := hc4.2.1
      have c0 := b0.cell
      have c1 := b1.cell
      have d0 := b0.frozen
      have d1 := b1.frozen
      have hcv := own_conv hrow
      have HC := Lib.hid hc4
      clear hc4 hC0
      cases r with
      | nil =>
        have HV := Lib.hid (decV_ok hsc hlen)
        have hk : s.size - ([] : List UInt8).length = s.size := by simp
        rw [hk] at kp
        clear hsc hk
        gi_wp2
        have e0 := (b0.set (.string (bs xs))).kept (grownBy_setCell' _ (w.heap.size + 1) (.int .i64 0)) (by simp)
        have e1 := (b1.kept (grownBy_setCell' _ w.heap.size (.string (bs xs))) (by simp)).set (.int .i64 0)
        have hD := ((KeepsOthers.setCell W4 ⟨w.heap.size, 0, none⟩ (.string (bs xs))).trans (KeepsOthers.setCell _ ⟨w.heap.size + 1, 0, none⟩ (.int .i64 0))).same _ _ HC.out.2.2.2.2.2.1 rfl
        have eB := (HC.out.2.2.2.2.2.2.setCell (p := ⟨w.heap.size, 0, none⟩) (Nat.le_refl _) (.string (bs xs))).setCell (p := ⟨w.heap.size + 1, 0, none⟩) (Nat.le_succ _) (.int .i64 0)
        exact leaves_idle 6 (by omega) rfl rfl e0 e1 hD ⟨by rw [HV.out], eB.grown (grownBy_putObj' _ _ _) eB.size (fun k e => by cases e; omega)⟩
      | cons a r =>
        have HV := Lib.hid (decV_more hsc)
        have hd : decide (((s.size - (a :: r).length : Nat) : Int) < (s.size : Int)) = true := decide_eq_true (by rw [List.length_cons] at hrl ⊢; omega)
        clear hsc hrl
        generalize s.size - (a :: r).length = at_ at kp hd
        have hd2 : at_ < s.size := by have := of_decide_eq_true hd; omega
        gi_wp2
        have e0 := (b0.set (.string ⟨#[]⟩)).kept (grownBy_setCell' _ (w.heap.size + 1) (.int .i64 4)) (by simp)
        have e1 := (b1.kept (grownBy_setCell' _ w.heap.size (.string ⟨#[]⟩)) (by simp)).set (.int .i64 4)
        have hD := ((KeepsOthers.setCell W4 ⟨w.heap.size, 0, none⟩ (.string ⟨#[]⟩)).trans (KeepsOthers.setCell _ ⟨w.heap.size + 1, 0, none⟩ (.int .i64 4))).same _ _ HC.out.2.2.2.2.2.1 rfl
        have eB := (HC.out.2.2.2.2.2.2.setCell (p := ⟨w.heap.size, 0, none⟩) (Nat.le_refl _) (.string ⟨#[]⟩)).setCell (p := ⟨w.heap.size + 1, 0, none⟩) (Nat.le_succ _) (.int .i64 4)
        exact leaves_idle 6 (by omega) rfl rfl e0 e1 hD ⟨by rw [HV.out], eB.grown (grownBy_putObj' _ _ _) eB.size (fun k e => by cases e; omega)⟩
    · obtain ⟨b0, b1, hD, hl, hB, hlong⟩ := hx
      have hrun : (Instr.endLoop (w.heap.size + 1 + 1 + 1 + 1 + 1 + 1)).run Try.prog W' = .ok (some .ret) (W'.putObj (w.heap.size + 1 + 1 + 1 + 1 + 1 + 1) (.loop (rec .exhausted (some .ret)))) := by
        rw [← hrec] at hl ⊢
        exact run_endLoop hl (by simp [recOf])
      refine ⟨some .ret, _, hrun, ?_⟩
      have HV := Lib.hid (decV_long hlong)
      have e0 := boxed_putNon b0 (.loop (rec .exhausted (some .ret))) hl rfl
      have e1 := boxed_putNon b1 (.loop (rec .exhausted (some .ret))) hl rfl
      have hlt := (Array.getElem?_eq_some_iff.1 hl).1
      have hD2 : (W'.putObj (w.heap.size + 1 + 1 + 1 + 1 + 1 + 1) (.loop (rec .exhausted (some .ret)))).heap[w.heap.size + 1 + 1 + 1 + 1 + 1]? = some (.deferred (some [])) := (World.putObj_heap_other (by omega)).trans hD
      have eB := hB.grown (grownBy_putObj' W' (w.heap.size + 1 + 1 + 1 + 1 + 1 + 1) (.loop (rec .exhausted (some .ret)))) hB.size (fun k e => by cases e; omega)
      clear hrun hlong hC0
      gi_wp2
      exact leaves_idle 6 (by omega) rfl rfl e0 e1 hD2 ⟨by rw [HV.out], eB.grown (grownBy_putObj' _ _ _) eB.size (fun k e => by cases e; omega)⟩
    · have HV := Lib.hid (decV_none hno)
      clear hC0
      obtain ⟨b0, b1, -, -, -, hD, hB⟩ := hc
      have eB := ((hB.grown (grownBy_putObj' W' (w.heap.size + 1 + 1 + 1 + 1 + 1) (.deferred none)) hB.size (fun k e => by cases e; omega)).setCell (p := ⟨w.heap.size, 0, none⟩) (Nat.le_refl _) (.string ⟨#[]⟩)).setCell (p := ⟨w.heap.size + 1, 0, none⟩) (Nat.le_succ _) (.int .i64 4)
      exact leaves_shape 6 (by omega) rfl rfl b0 b1 hD ⟨by rw [HV.out], eB⟩
end Go.Proofs.Ytegccicplcjcmaa
