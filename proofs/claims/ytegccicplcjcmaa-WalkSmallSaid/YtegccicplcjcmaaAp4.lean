/- Walk: do rows of pairs that were handed out lie apart. -/
import Derived.Test.YtegccicplcjcmaaAp3
namespace Go.Proofs.Ytegccicplcjcmaa
open Go Go.RowKit Go.Shelf Go.Proofs
attribute [local go_sem] Oper.semAt_some

theorem markpair_int {x y : Int} (k n : Nat) (w : World) (hx : x = (k : Int)) (hy : y = (n : Int)) (hk2 : k < 100000000) (h2 : n < 100000000) :
    Calls Try.prog 105 #[.int .i64 x, .int .i64 y] w fun e w' => e = .returned (.agg #[.string (mkt k n), .string ⟨#[]⟩]) ∧ Below w.heap.size w w' := by
  subst hx hy; exact markpair_all k n w hk2 h2

theorem infoLists : (Try.prog.info? 26).map (fun i => (i.zero, i.size, i.bytes)) = some (some (.slice none 0 0), 1, 24) := by kernel_rfl

theorem mk_lists (n : Nat) (hn : n ≤ 1000) : ∃ ca : Array Value, ca.size = n ∧ ∀ W : World, (Instr.makeSlice 80 (.int .i64 (n : Int)) (.int .i64 (n : Int))).run Try.prog W = .ok (.slice (some ⟨W.heap.size, 0, none⟩) n n) (W.alloc (.cells ca 26)) := by
  obtain ⟨i0, hi, hz0, hz1, hz2⟩ := info_parts2 infoLists
  refine ⟨madeCells (Value.cells (.slice none 0 0)) (n * 1), by simp [madeCells], fun W => ?_⟩
  have := run_make (P := Try.prog) W 80 26 i0 _ Try.underlying80 hi hz0 .i64 .i64 (n : Int) (n : Int) (by omega) (by omega) (by rw [hz2]; omega) (by omega)
  rw [hz1, Int.toNat_natCast] at this
  exact this

def many0 : Array Value := (pcells (List.replicate 64 (⟨#[]⟩, ⟨#[]⟩))).toArray

theorem mk_many (W : World) : (Instr.makeSlice 26 (.int .i64 64) (.int .i64 64)).run Try.prog W = .ok (.slice (some ⟨W.heap.size, 0, none⟩) 64 64) (W.alloc (.cells many0 48)) := by kernel_rfl

theorem many_row (W : World) : PRow (W.alloc (.cells many0 48)) W.heap.size (.slice (some ⟨W.heap.size, 0, none⟩) 64 64) (List.replicate 64 (⟨#[]⟩, ⟨#[]⟩)) :=
  prow_mk (by simp) (Nat.le_refl _) (World.alloc_heap_new _ _) (Nat.le_refl _) (by unfold maxLen; omega) (by simp [many0, pcells_length]) (by rw [List.take_of_length_le (by simp [many0, pcells_length])]; rfl)

theorem pair_eql (a b : ByteArray) (W : World) : (binOp .eql 48 (.agg #[.string a, .string b]) (.agg #[.string a, .string b])).run Try.prog W = .ok (.bool true) W := by
  have h := pair_neq a b a b W
  rw [run_neq_struct] at h
  rw [run_eql_struct]
  cases e : (Op.equalIn 10000 48 (.agg #[.string a, .string b]) (.agg #[.string a, .string b])).run Try.prog W with
  | ok v w' =>
    rw [e] at h
    simp [Result.andThen] at h ⊢
    exact h
  | halt s w' =>
    rw [e] at h
    simp [Result.andThen] at h

theorem prow_form2 {w : World} {B nn : Nat} {v : Value} {ps : PS} (h : PRow w B v ps) (hl : ps.length = nn) : ∃ a c, v = .slice a nn c ∧ (nn = 0 ∨ ∃ g, a = some ⟨g, 0, none⟩) := by
  rcases prow_form h with ⟨e, e2⟩ | ⟨g, c, e⟩
  · subst e2
    simp at hl
    subst hl
    exact ⟨none, 0, e, .inl rfl⟩
  · subst hl
    exact ⟨_, c, e, .inr ⟨g, rfl⟩⟩

theorem mks_set (k i : Nat) (q : ByteArray × ByteArray) (r : PS) : (mks k i ++ q :: r).set i (mkt k i, ⟨#[]⟩) = mks k (i + 1) ++ r := by
  rw [List.set_append, if_neg (by rw [mks_length]; omega), mks_length, Nat.sub_self, List.set_cons_zero, mks_succ]
  simp

theorem R1.form2 {w0 : World} {B L n : Nat} {cur : Array Value} {fz : Nat × Nat} {vs : Nat → Value} {ns : Nat → Nat} {w : World} {k i : Nat} (h : R1 w0 B L n cur fz vs ns w k i) {j : Nat} (hj : j < n) : ∃ a c, vs j = .slice a (ns j) c ∧ (ns j = 0 ∨ ∃ g, a = some ⟨g, 0, none⟩) := by
  obtain ⟨p, h1, h2, _⟩ := h.rows j hj
  exact prow_form2 h2 h1

/-- append of pairs onto an own row, for the walk. -/
theorem wpList_appF {ops : Array Oper} {rest : List Oper} {o : Oper} {a : Act} {Q : Exit → Act → World → Prop} (w : World) (hgd : o.guard = none) (s x : Operand)
    (ho : o.op = .call { callee := .builtin .append, args := #[s, x], argTypes := #[26, 26] }) (B : Nat) (v : Value) (xs : PS) (hs : a.eval s = v) (hown : PRow w B v xs)
    (ad : Addr) (m c : Nat) (news : PS) (hx : a.eval x = .slice (some ad) m c) (hl : news.length = m) (hnews : ∀ j u, (pcells news)[j]? = some u → w.cell? (ad.add j) = some u) (hnm : xs.length + m ≤ 200000) (hB : B ≤ w.heap.size)
    (h : ∀ v' w', PRow w' B v' (xs ++ news) → w.grownBy w' v.ownBlock → (v'.ownBlock = v.ownBlock ∨ v'.ownBlock = some w.heap.size) → PRow w' B v xs → wpList Try.prog ops Q rest (a.put o.dst v') w') : wpList Try.prog ops Q (o :: rest) a w := by
  refine wpList_plain hgd fun K hK => ?_
  obtain ⟨v', w', hr, h1, h2, h3, h4⟩ := run_app_pairs w B o.type hown ad m c news hl hnews hnm hB
  unfold Oper.wp execOp
  simp only [ho, resolve, invoke, builtin, Sem.run_bind, Sem.run_pure, Result.andThen_ok, List.map_toArray, List.map_cons, List.map_nil, hs, hx, hr]
  exact hK _ _ (h v' w' h1 h2 h3 h4)

theorem cell_set2 {W : World} {k p q b o : Nat} {x y u : Value} (h1 : b ≠ k) (hu : W.cell? ⟨b, o, none⟩ = some u) : ((W.setCell ⟨k, p, none⟩ x).setCell ⟨k, q, none⟩ y).cell? ⟨b, o, none⟩ = some u := by
  have : ((W.setCell ⟨k, p, none⟩ x).setCell ⟨k, q, none⟩ y).heap[b]? = W.heap[b]? := by
    rw [Below.heap_setCell _ _ _ _ (by simpa using h1), Below.heap_setCell _ _ _ _ (by simpa using h1)]
  simpa [World.cell?, this] using hu

set_option maxRecDepth 100000 in
set_option maxHeartbeats 16000000 in
theorem flatpairs_all (w : World) (B L n lc : Nat) (cur : Array Value) (fz : Nat × Nat) (vs : Nat → Value) (ns : Nat → Nat) (hF : FlatIn w B L n cur vs ns) (hl : w.heap[L]? = some (.cells cur 26 fz)) (hrows : ∀ j, j < n → ∃ p, p.length = ns j ∧ PRow w B (vs j) p) :
    Calls Try.prog 81 #[.slice (some ⟨L, 0, none⟩) n lc] w fun e w' => e = .returned (.bool true) ∧ Below B w w' ∧ Others w w' := by
  have hR0 : R1 w B L n cur fz vs ns w 0 0 := ⟨Below.refl _ _, fun _ _ h _ => h, hl, fun j hj => by
    obtain ⟨p, h1, h2⟩ := hrows j hj
    exact ⟨p, h1, h2, fun h => by omega, fun _ => ⟨p, rfl⟩⟩⟩
  obtain ⟨ca, hca, hmk⟩ := mk_lists n hF.hn
  have hmm := mk_many
  have hn := hF.hn
  have hB0 := hF.hB
  have HN := Lib.hid hF.hns
  have HF := Lib.hid hF
  have HM : Hid (∀ {x y : Int} (k n : Nat) (w : World), x = (k : Int) → y = (n : Int) → k < 100000000 → n < 100000000 → Calls Try.prog 105 #[.int .i64 x, .int .i64 y] w fun e w' => e = .returned (.agg #[.string (mkt k n), .string ⟨#[]⟩]) ∧ Below w.heap.size w w') := Lib.hid markpair_int
  clear hl hrows hF
  go_enter Try.func81, Try.ntmps81
  go_wp2
  go_loopw [3, 4] (fun i _ wr => ∃ k : Nat, k ≤ n ∧ i = .int .i64 k ∧ R1 w B L n cur fz vs ns wr k 0) (fun i _ _ => n - (intOf i).toNat)
  case atStart => exact ⟨0, Nat.zero_le _, rfl, hR0⟩
  case round =>
    obtain ⟨k, hk, rfl, hR⟩ := hrel
    clear hR0
    by_cases hkn : k < n
    · obtain ⟨ak, ck, hvk, hak⟩ := hR.form2 hkn
      have hnk := HN.out k hkn
      have hc := lst_cell HF.out hR.lst hkn
      rw [hvk] at hc
      have HVK := Lib.hid hvk
      clear hvk
      go_wp2
      go_loopw [4] (fun j w2 => ∃ i : Nat, i ≤ ns k ∧ j = .int .i64 i ∧ R1 w B L n cur fz vs ns w2 k i) (fun j _ => ns k - (intOf j).toNat)
      case atStart => exact ⟨0, Nat.zero_le _, rfl, hR⟩
      case round =>
        obtain ⟨i, hi, rfl, hR2⟩ := hrel
        clear hR hc
        have hc := lst_cell HF.out hR2.lst hkn
        rw [HVK.out] at hc
        by_cases hin : i < ns k
        · obtain ⟨g, rfl⟩ := hak.resolve_left (by omega)
          obtain ⟨hBg, hLg, hgc, _, _⟩ := hR2.at hkn hin HVK.out
          have HST := Lib.hid (fun W (hb : Below wr.heap.size wr W) => hR2.stay HF.out hb)
          have HL := Lib.hid (fun W (hb : Below wr.heap.size wr W) => show W.cell? ⟨L, k, none⟩ = some (.slice (some ⟨g, 0, none⟩) (ns k) ck) by have := lst_cell HF.out (HST.out W hb).lst hkn; rw [HVK.out] at this; exact this)
          have HS2 := Lib.hid (fun (W : World) (p q : Nat) (x y u : Value) (h : W.cell? ⟨L, k, none⟩ = some u) => cell_set2 (W := W) (k := g) (p := p) (q := q) (x := x) (y := y) hLg h)
          have HCH := Lib.hid (fun (W W' : World) (h : Below wr.heap.size wr W) (k : Below W.heap.size W W') => h.trans (k.mono h.size))
          clear hR2
          go_wp2
          go_region_held3 (fun w' => w'.cell? ⟨L, k, none⟩ = some (.slice (some ⟨g, 0, none⟩) (ns k) ck))
            (first | assumption | exact HL.out _ (by assumption) | exact HS2.out _ _ _ _ _ _ (by assumption))
            (first
              | (go_at_call 105
                 refine (HM.out k i _ rfl rfl (by omega) (by omega)).mono ?_
                 rintro e w6 ⟨rfl, n6⟩
                 have hb6 := HCH.out _ _ (by first | exact Below.refl _ _ | exact (Below.refl _ _).drew) n6
                 have hR6 := HST.out _ hb6
                 obtain ⟨_, _, _, ⟨x, y, c0, c1⟩, f0⟩ := hR6.at hkn hin HVK.out)
              | fail)
          all_goals
            have hR7 := hR6.put HF.out hkn hin HVK.out
            go_wp2
            go_roundw
            case rel => exact ⟨i + 1, by omega, by go_num, hR7⟩
            case measure => simp [intOf]; omega
        · obtain rfl : i = ns k := by omega
          go_wp2
          go_roundw
          case rel => exact ⟨k + 1, by omega, by go_num, hR2.next rfl⟩
          case measure => simp [intOf]; omega
    · obtain rfl : n = k := by omega
      go_wp2
      obtain ⟨W2, hW2⟩ : ∃ W2, W2 = wr.alloc (.cells ca 26) := ⟨_, rfl⟩
      rw [← hW2]
      have hR3 := R2.start HF.out hR hW2 hca
      clear hR hW2 hmk
      generalize wr.heap.size = A at *
      go_loopw [6, 7, 8] (fun i _ _ w3 => ∃ (k : Nat) (gs : Nat → Value) (F : Nat → PS), k ≤ n ∧ i = .int .i64 k ∧ R2 w B L A n cur fz vs ns w3 k gs F ∧ Hid ((∀ j, j < n → F j = mks j (ns j + if j < k then 64 else 0)) ∧ ∀ j, k ≤ j → gs j = vs j)) (fun i _ _ _ => n - (intOf i).toNat)
      case atStart => exact ⟨0, _, _, Nat.zero_le _, rfl, hR3, Lib.hid ⟨fun j hj => by simp, fun _ _ => rfl⟩⟩
      case round =>
        obtain ⟨k, gs, F, hk, rfl, hR, HI⟩ := hrel
        clear hR3
        by_cases hkn : k < n
        · obtain ⟨ak, ck, hvk, hak⟩ := prow_form2 (hR.rows k hkn).1 (mks_length _ _)
          have hnk := HN.out k hkn
          have hc := lst_cell HF.out hR.lst hkn
          have HG := Lib.hid ((HI.out.2 k (Nat.le_refl _)).trans hvk).symm
          rw [hvk] at hc
          have HVK := Lib.hid hvk
          clear hvk
          go_wp2
          go_loopw [7, 8] (fun g j w4 => ∃ (i : Nat) (gs : Nat → Value) (F : Nat → PS), i ≤ 64 ∧ j = .int .i64 i ∧ g = gs k ∧ R2 w B L A n cur fz vs ns w4 k gs F ∧ Hid ((∀ j, j < n → j ≠ k → F j = mks j (ns j + if j < k then 64 else 0)) ∧ F k = mks k (ns k + i) ∧ ∀ j, k < j → gs j = vs j)) (fun _ j _ => 64 - (intOf j).toNat)
          case atStart => exact ⟨0, gs, F, Nat.zero_le _, rfl, HG.out, hR, Lib.hid ⟨fun j hj _ => HI.out.1 j hj, by rw [HI.out.1 k hkn, if_neg (Nat.lt_irrefl _)], fun j hj => HI.out.2 j (by omega)⟩⟩
          case round =>
            clear HI HG hR hc
            obtain ⟨i, gs, F, hi, rfl, rfl, hR, HI⟩ := hrel
            have hc := lst_cell HF.out hR.lst hkn
            rw [HVK.out] at hc
            by_cases hin : i < 64
            · have hlen : (F k).length + 1 ≤ 200000 := by rw [HI.out.2.1, mks_length]; omega
              have HST := Lib.hid (fun W (hb : Below wr.heap.size wr W) => hR.stay HF.out hb)
              clear hR
              go_wp2_with (first
                | (go_at_call 105; refine (HM.out k (ns k + i) _ rfl (by omega) (by omega) (by omega)).mono ?_; rintro e w6 ⟨rfl, n6⟩; have hb7 := n6.alloc n6.size (.cells #[.string (mkt k (ns k + i)), .string ⟨#[]⟩] 48); have hR7 := HST.out _ hb7)
                | (at_builtin; refine wpList_appF _ rfl _ _ rfl B (gs k) (F k) rfl (hR7.rows k hkn).2.1 ⟨w6.heap.size, 0, none⟩ 1 1 [(mkt k (ns k + i), ⟨#[]⟩)] rfl rfl (two_new _ _ _ _) hlen (Nat.le_trans hB0 hR7.below.size) ?_; intro v' w8 q1 q2 q3 q4; have hR8 := hR7.app HF.out hkn q1 q2 q3 q4))
              go_roundw
              case rel => exact ⟨i + 1, _, _, by omega, by go_num, (updF_same _ _ _).symm, hR8, Lib.hid ⟨fun j hj e => by rw [updF_other _ _ e]; exact HI.out.1 j hj e, by rw [updF_same, HI.out.2.1, ← mks_succ]; rfl, fun j hj => by rw [updF_other _ _ (by omega)]; exact HI.out.2.2 j hj⟩⟩
              case measure => simp [intOf]; omega
            · obtain rfl : i = 64 := by omega
              obtain ⟨_, hcu, hfz⟩ := hR.cells
              obtain ⟨u, hu⟩ := hcu k hkn
              have hR9 := hR.put HF.out hkn
              obtain ⟨ag, cg, hgk, _⟩ := prow_form2 (hR.rows k hkn).2.1 (nn := ns k + 64) (by rw [HI.out.2.1, mks_length])
              rw [hgk] at hR9 ⊢
              clear hgk
              go_wp2
              go_roundw
              case rel => exact ⟨k + 1, gs, F, by omega, by go_num, hR9, Lib.hid ⟨fun j hj => by
                by_cases e : j = k
                · subst e; rw [HI.out.2.1, if_pos (by omega)]
                · rw [HI.out.1 j hj e]
                  congr 2
                  by_cases e2 : j < k
                  · rw [if_pos e2, if_pos (by omega)]
                  · rw [if_neg e2, if_neg (by omega)], fun j hj => HI.out.2.2 j (by omega)⟩⟩
              case measure => simp [intOf]; omega
        · obtain rfl : n = k := by omega
          have HFL := Lib.hid (fun j (hj : j < n) => show F j = mks j (ns j + 64) by rw [HI.out.1 j hj, if_pos hj])
          obtain ⟨w4, hw4⟩ : ∃ w4, w4 = wr := ⟨_, rfl⟩
          subst hw4
          have hB5 := Below.refl w4.heap.size w4
          have HR5 := Lib.hid hR
          have HEQ := Lib.hid pair_eql
          clear HI hR
          go_wp2
          go_loopw [9, 10] (fun i _ w5 => ∃ k : Nat, k ≤ n ∧ i = .int .i64 k ∧ Below w4.heap.size w4 w5) (fun i _ _ => n - (intOf i).toNat)
          case atStart => exact ⟨0, Nat.zero_le _, rfl, hB5⟩
          case round =>
            obtain ⟨k, hk, rfl, hB⟩ := hrel
            clear hB5
            by_cases hkn : k < n
            · obtain ⟨av, cv, hvk, hav⟩ := prow_form2 (HR5.out.rows k hkn).1 (mks_length _ _)
              obtain ⟨ag, cg, hgk, hag⟩ := prow_form2 (HR5.out.rows k hkn).2.1 (nn := ns k + 64) (by rw [HFL.out k hkn, mks_length])
              obtain ⟨gg, rfl⟩ := hag.resolve_left (by omega)
              have hnk := HN.out k hkn
              have HA := Lib.hid (fun W (hb : Below w4.heap.size w4 W) => show W.cell? ⟨A, k, none⟩ = some (.slice (some ⟨gg, 0, none⟩) (ns k + 64) cg) by have := (HR5.out.stay HF.out hb).cells.1 k hkn; rw [hgk] at this; exact this)
              have HL := Lib.hid (fun W (hb : Below w4.heap.size w4 W) => show W.cell? ⟨L, k, none⟩ = some (.slice av (ns k) cv) by have := lst_cell HF.out (HR5.out.stay HF.out hb).lst hkn; rw [hvk] at this; exact this)
              have HCG := Lib.hid (fun W (hb : Below w4.heap.size w4 W) (i : Nat) (hi : i < ns k + 64) => show W.cell? ⟨gg, i * 2, none⟩ = some (.string (mkt k i)) ∧ W.cell? ⟨gg, i * 2 + 1, none⟩ = some (.string ⟨#[]⟩) by
                have h1 := ((HR5.out.stay HF.out hb).rows k hkn).2.1
                rw [hgk, HFL.out k hkn] at h1
                have h2 := prow_at h1 (mks_get k _ hi)
                exact ⟨h2.1, h2.2.1⟩)
              have HCV := Lib.hid (fun W (hb : Below w4.heap.size w4 W) (i : Nat) (hi : i < ns k) (gv : Nat) (e : av = some ⟨gv, 0, none⟩) => show W.cell? ⟨gv, i * 2, none⟩ = some (.string (mkt k i)) ∧ W.cell? ⟨gv, i * 2 + 1, none⟩ = some (.string ⟨#[]⟩) by
                have h1 := ((HR5.out.stay HF.out hb).rows k hkn).1
                rw [hvk, e] at h1
                have h2 := prow_at h1 (mks_get k _ hi)
                exact ⟨h2.1, h2.2.1⟩)
              clear hvk hgk hag
              have a0 := HA.out _ hB
              have l0 := HL.out _ hB
              go_wp2
              go_loopw [10] (fun j w6 => ∃ i : Nat, i ≤ ns k + 64 ∧ j = .int .i64 i ∧ Below w4.heap.size w4 w6) (fun j _ => ns k + 64 - (intOf j).toNat)
              case atStart => exact ⟨0, Nat.zero_le _, rfl, hB⟩
              case round =>
                obtain ⟨i, hi, rfl, hB6⟩ := hrel
                clear hB a0 l0
                have a0 := HA.out _ hB6
                have l0 := HL.out _ hB6
                by_cases hin : i < ns k + 64
                · obtain ⟨g0, g1⟩ := HCG.out _ hB6 i hin
                  have HMK := Lib.hid (fun W => HM.out k i W rfl rfl (by omega) (by omega))
                  have heq := HEQ.out (mkt k i) ⟨#[]⟩
                  by_cases hiv : i < ns k
                  · obtain ⟨gv, rfl⟩ := hav.resolve_left (by omega)
                    obtain ⟨v0, v1⟩ := HCV.out _ hB6 i hiv gv rfl
                    have hd : decide ((i : Int) < (ns k : Int)) = true := decide_eq_true (by omega)
                    go_wp2
                    have k0 := fun dd os => cell_regrown a0 dd os
                    have k1 := fun dd os => cell_regrown l0 dd os
                    have k2 := fun dd os => cell_regrown g0 dd os
                    have k3 := fun dd os => cell_regrown g1 dd os
                    have k4 := fun dd os => cell_regrown v0 dd os
                    have k5 := fun dd os => cell_regrown v1 dd os
                    refine wp_region_quiet_below (by kernel_rfl) (by kernel_rfl) ?_
                    repeat (go_big_quiet_step (first | (go_at_call 105; exact Calls.regrown_of (HMK.out _))))
                    refine wpQuiet_nil ?_
                    intro _ hw'
                    obtain ⟨⟨dq, osq⟩, rfl⟩ := hw'
                    have hg8 := below_regrown wr dq osq
                    clear k0 k1 k2 k3 k4 k5
                    generalize Sort.grow (redrawn wr dq) osq = w8 at hg8 ⊢
                    go_wp2
                    go_roundw
                    case rel => exact ⟨i + 1, by omega, by go_num, hB6.trans (hg8.mono hB6.size)⟩
                    case measure => simp [intOf]; omega
                  · have hd : decide ((i : Int) < (ns k : Int)) = false := decide_eq_false (by omega)
                    go_wp2
                    have k0 := fun dd os => cell_regrown a0 dd os
                    have k1 := fun dd os => cell_regrown l0 dd os
                    have k2 := fun dd os => cell_regrown g0 dd os
                    have k3 := fun dd os => cell_regrown g1 dd os
                    refine wp_region_quiet_below (by kernel_rfl) (by kernel_rfl) ?_
                    repeat (go_big_quiet_step (first | (go_at_call 105; exact Calls.regrown_of (HMK.out _))))
                    refine wpQuiet_nil ?_
                    intro _ hw'
                    obtain ⟨⟨dq, osq⟩, rfl⟩ := hw'
                    have hg8 := below_regrown wr dq osq
                    clear k0 k1 k2 k3
                    generalize Sort.grow (redrawn wr dq) osq = w8 at hg8 ⊢
                    go_wp2
                    go_roundw
                    case rel => exact ⟨i + 1, by omega, by go_num, hB6.trans (hg8.mono hB6.size)⟩
                    case measure => simp [intOf]; omega
                · obtain rfl : i = ns k + 64 := by omega
                  go_wp2
                  go_roundw
                  case rel => exact ⟨k + 1, by omega, by go_num, hB6⟩
                  case measure => simp [intOf]; omega
            · obtain rfl : n = k := by omega
              have hR := (HR5.out.stay HF.out hB).restart
              clear HR5 HFL hB
              go_wp2
              go_loopw [11, 12, 13] (fun i _ _ w7 => ∃ (k : Nat) (gs : Nat → Value) (F : Nat → PS), k ≤ n ∧ i = .int .i64 k ∧ R2 w B L A n cur fz vs ns w7 k gs F ∧ Hid ((∀ j, k ≤ j → j < n → F j = mks j (ns j)) ∧ ∀ j, k ≤ j → gs j = vs j)) (fun i _ _ _ => n - (intOf i).toNat)
              case atStart => exact ⟨0, _, _, Nat.zero_le _, rfl, hR, Lib.hid ⟨fun _ _ _ => rfl, fun _ _ => rfl⟩⟩
              case round =>
                clear hR
                obtain ⟨k, gs, F, hk, rfl, hR, HI⟩ := hrel
                by_cases hkn : k < n
                · obtain ⟨av, cv, hvk, hav⟩ := prow_form2 (hR.rows k hkn).1 (mks_length _ _)
                  have hnk := HN.out k hkn
                  have HG := Lib.hid ((HI.out.2 k (Nat.le_refl _)).trans hvk).symm
                  have HFK := Lib.hid (HI.out.1 k (Nat.le_refl _) hkn).symm
                  have HVK := Lib.hid hvk
                  obtain ⟨w7, hw7⟩ : ∃ w7, w7 = wr := ⟨_, rfl⟩
                  subst hw7
                  have HR := Lib.hid hR
                  have hm0 := many_row w7
                  have hb8 : Below w7.heap.size w7 (w7.alloc (.cells many0 48)) := (Below.refl _ _).alloc (Nat.le_refl _) _
                  clear hvk hR
                  go_wp2
                  generalize w7.alloc (.cells many0 48) = w8 at hm0 hb8 ⊢
                  go_loopw [13] (fun j w9 => ∃ i : Nat, i ≤ 64 ∧ j = .int .i64 i ∧ Below w7.heap.size w7 w9 ∧ ∃ r : PS, i + r.length = 64 ∧ PRow w9 w7.heap.size (.slice (some ⟨w7.heap.size, 0, none⟩) 64 64) (mks (k + n) i ++ r)) (fun j _ => 64 - (intOf j).toNat)
                  case atStart => exact ⟨0, Nat.zero_le _, rfl, hb8, _, by simp, hm0⟩
                  case round =>
                    clear hm0 hb8
                    obtain ⟨i, hi, rfl, hB9, r, hr, hm⟩ := hrel
                    by_cases hin : i < 64
                    · obtain ⟨q, r', rfl⟩ := List.exists_cons_of_ne_nil (show r ≠ [] by rintro rfl; simp at hr; omega)
                      have HMR := Lib.hid hm
                      clear hm
                      go_wp2_with (go_at_call 105; refine (HM.out (k + n) i _ (by omega) rfl (by omega) (by omega)).mono ?_; rintro e w10 ⟨rfl, n10⟩; have hm10 : PRow w10 w7.heap.size (.slice (some ⟨w7.heap.size, 0, none⟩) 64 64) (mks (k + n) i ++ q :: r') := ownsRow_below HMR.out n10 (Nat.le_refl _); obtain ⟨c0, c1, f0⟩ := prow_at hm10 (i := i) (p := q) (by rw [List.getElem?_append_right (by rw [mks_length]; omega), mks_length, Nat.sub_self]; rfl))
                      have hm11 := prow_set hm10 i (mkt (k + n) i) ⟨#[]⟩
                      rw [mks_set] at hm11
                      have hb10 := hB9.trans (n10.mono hB9.size)
                      go_roundw
                      case rel => exact ⟨i + 1, by omega, by go_num, (hb10.setCell (p := ⟨w7.heap.size, i * 2, none⟩) (Nat.le_refl _) _).setCell (p := ⟨w7.heap.size, i * 2 + 1, none⟩) (Nat.le_refl _) _, r', by simp at hr; omega, hm11⟩
                      case measure => simp [intOf]; omega
                    · obtain rfl : i = 64 := by omega
                      obtain rfl : r = [] := List.eq_nil_of_length_eq_zero (by omega)
                      rw [List.append_nil] at hm
                      have hR9 := HR.out.stay HF.out hB9
                      have hc := lst_cell HF.out hR9.lst hkn
                      rw [HVK.out] at hc
                      have hrow := (hR9.rows k hkn).1
                      rw [HVK.out] at hrow
                      have hnews := hm.cells (g := w7.heap.size) rfl
                      have hsz9 := Nat.le_trans hB0 hR9.below.size
                      clear HR hm
                      have HR9 := Lib.hid hR9
                      clear hR9
                      go_wp2_with (at_builtin; refine wpList_appF _ rfl _ _ rfl B (.slice av (ns k) cv) (mks k (ns k)) rfl hrow ⟨w7.heap.size, 0, none⟩ 64 64 (mks (k + n) 64) rfl (mks_length _ _) hnews (by rw [mks_length]; omega) hsz9 ?_; intro v' w11 q1 q2 q3 q4; rw [HG.out] at q2 q3 q4; rw [HFK.out] at q1 q4; have hR11 := HR9.out.app HF.out hkn q1 q2 q3 q4; obtain ⟨va, vc, rfl, _⟩ := prow_form2 q1 (nn := ns k + 64) (by rw [← HFK.out, List.length_append, mks_length, mks_length]); obtain ⟨u, hu⟩ := hR11.cells.2.1 k hkn; have hfz := hR11.cells.2.2)
                      have hR12 := hR11.put HF.out hkn
                      rw [updF_same] at hR12
                      go_roundw
                      case rel => exact ⟨k + 1, _, _, by omega, by go_num, hR12, Lib.hid ⟨fun j hj hjn => by rw [updF_other _ _ (by omega)]; exact HI.out.1 j (by omega) hjn, fun j hj => by rw [updF_other _ _ (by omega)]; exact HI.out.2 j (by omega)⟩⟩
                      case measure => simp [intOf]; omega
                · obtain rfl : n = k := by omega
                  obtain ⟨w4, hw4⟩ : ∃ w4, w4 = wr := ⟨_, rfl⟩
                  subst hw4
                  have hB5 := Below.refl w4.heap.size w4
                  have HR5 := Lib.hid hR
                  clear HI hR
                  go_wp2
                  go_loopw [14, 15] (fun i _ w5 => ∃ k : Nat, k ≤ n ∧ i = .int .i64 k ∧ Below w4.heap.size w4 w5) (fun i _ _ => n - (intOf i).toNat)
                  case atStart => exact ⟨0, Nat.zero_le _, rfl, hB5⟩
                  case round =>
                    obtain ⟨k, hk, rfl, hB⟩ := hrel
                    clear hB5
                    by_cases hkn : k < n
                    · obtain ⟨av, cv, hvk, hav⟩ := prow_form2 (HR5.out.rows k hkn).1 (mks_length _ _)
                      obtain ⟨ag, cg, hgk, hag⟩ := prow_form2 (HR5.out.rows k hkn).2.1 rfl
                      obtain ⟨rr, hFr⟩ := (HR5.out.rows k hkn).2.2
                      have hlg : ns k ≤ (F k).length := by rw [hFr, List.length_append, mks_length]; omega
                      have hnk := HN.out k hkn
                      have HA := Lib.hid (fun W (hb : Below w4.heap.size w4 W) => show W.cell? ⟨A, k, none⟩ = some (.slice ag (F k).length cg) by have := (HR5.out.stay HF.out hb).cells.1 k hkn; rw [hgk] at this; exact this)
                      have HL := Lib.hid (fun W (hb : Below w4.heap.size w4 W) => show W.cell? ⟨L, k, none⟩ = some (.slice av (ns k) cv) by have := lst_cell HF.out (HR5.out.stay HF.out hb).lst hkn; rw [hvk] at this; exact this)
                      have HCG := Lib.hid (fun W (hb : Below w4.heap.size w4 W) (i : Nat) (hi : i < ns k) (gg : Nat) (e : ag = some ⟨gg, 0, none⟩) => show W.cell? ⟨gg, i * 2, none⟩ = some (.string (mkt k i)) ∧ W.cell? ⟨gg, i * 2 + 1, none⟩ = some (.string ⟨#[]⟩) by
                        have h1 := ((HR5.out.stay HF.out hb).rows k hkn).2.1
                        rw [hgk, e] at h1
                        have h2 := prow_at h1 (i := i) (p := (mkt k i, ⟨#[]⟩)) (by rw [hFr, List.getElem?_append_left (by rw [mks_length]; exact hi)]; exact mks_get k _ hi)
                        exact ⟨h2.1, h2.2.1⟩)
                      have HCV := Lib.hid (fun W (hb : Below w4.heap.size w4 W) (i : Nat) (hi : i < ns k) (gv : Nat) (e : av = some ⟨gv, 0, none⟩) => show W.cell? ⟨gv, i * 2, none⟩ = some (.string (mkt k i)) ∧ W.cell? ⟨gv, i * 2 + 1, none⟩ = some (.string ⟨#[]⟩) by
                        have h1 := ((HR5.out.stay HF.out hb).rows k hkn).1
                        rw [hvk, e] at h1
                        have h2 := prow_at h1 (mks_get k _ hi)
                        exact ⟨h2.1, h2.2.1⟩)
                      generalize (F k).length = lg at *
                      clear hvk hgk hFr
                      have a0 := HA.out _ hB
                      have l0 := HL.out _ hB
                      go_wp2
                      go_loopw [15] (fun j w6 => ∃ i : Nat, i ≤ ns k ∧ j = .int .i64 i ∧ Below w4.heap.size w4 w6) (fun j _ => ns k - (intOf j).toNat)
                      case atStart => exact ⟨0, Nat.zero_le _, rfl, hB⟩
                      case round =>
                        obtain ⟨i, hi, rfl, hB6⟩ := hrel
                        clear hB a0 l0
                        have a0 := HA.out _ hB6
                        have l0 := HL.out _ hB6
                        by_cases hin : i < ns k
                        · obtain ⟨gg, rfl⟩ := hag.resolve_left (by omega)
                          obtain ⟨gv, rfl⟩ := hav.resolve_left (by omega)
                          obtain ⟨g0, g1⟩ := HCG.out _ hB6 i hin gg rfl
                          obtain ⟨v0, v1⟩ := HCV.out _ hB6 i hin gv rfl
                          have HMK := Lib.hid (fun W => HM.out k i W rfl rfl (by omega) (by omega))
                          have heq := HEQ.out (mkt k i) ⟨#[]⟩
                          have hd : (i : Int) < (lg : Int) := by omega
                          go_wp2
                          have k0 := fun dd os => cell_regrown a0 dd os
                          have k1 := fun dd os => cell_regrown l0 dd os
                          have k2 := fun dd os => cell_regrown g0 dd os
                          have k3 := fun dd os => cell_regrown g1 dd os
                          have k4 := fun dd os => cell_regrown v0 dd os
                          have k5 := fun dd os => cell_regrown v1 dd os
                          refine wp_region_quiet_below (by kernel_rfl) (by kernel_rfl) ?_
                          repeat (go_big_quiet_step (first | (go_at_call 105; exact Calls.regrown_of (HMK.out _))))
                          refine wpQuiet_nil ?_
                          intro _ hw'
                          obtain ⟨⟨dq, osq⟩, rfl⟩ := hw'
                          have hg8 := below_regrown wr dq osq
                          clear k0 k1 k2 k3 k4 k5
                          generalize Sort.grow (redrawn wr dq) osq = w8 at hg8 ⊢
                          go_wp2
                          go_roundw
                          case rel => exact ⟨i + 1, by omega, by go_num, hB6.trans (hg8.mono hB6.size)⟩
                          case measure => simp [intOf]; omega
                        · obtain rfl : i = ns k := by omega
                          go_wp2
                          go_roundw
                          case rel => exact ⟨k + 1, by omega, by go_num, hB6⟩
                          case measure => simp [intOf]; omega
                    · obtain rfl : n = k := by omega
                      have hRf := (HR5.out.stay HF.out hB).below
                      have hRo := (HR5.out.stay HF.out hB).oth
                      go_wp2
                      go_ret
                      exact ⟨rfl, hRf, hRo⟩

end Go.Proofs.Ytegccicplcjcmaa
