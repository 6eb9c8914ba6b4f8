/- Walk of bound.Beyond: a range over the iterator of a text's bytes from the end. -/
import Derived.Test.YtegccicplcjcmaaWBound1
import Derived.Test.YtegccicplcjcmaaLex
namespace Go.Proofs.Ytegccicplcjcmaa
open Go Go.RowKit Go.Shelf Go.Proofs
attribute [local go_sem] Oper.semAt_some

theorem back_any (s : ByteArray) (w : World) :
    Calls Try.prog 63 #[.agg #[.string s]] w fun e w' => e = .returned (.func (.func 93) #[] #[.pointer (some ⟨w.heap.size, 0, none⟩)]) ∧ w.alloc (.cells #[.string s] 126) = w' := by
  go_enter Try.func63, Try.ntmps63
  go_wp2
  go_ret
  exact ⟨rfl, rfl⟩

/-- What Beyond hands back. -/
def beyondV (s : ByteArray) : Value := .tuple #[.string (bs ((beyondL (by_ s)).getD [])), .bool (beyondL (by_ s)).isSome]

/-- What has come when a round leaves by a return: the last one is below 255, the others are 255. -/
def Hit (s : ByteArray) (pre : List (Fin s.size)) (W : World) (B : Nat) : Prop :=
  ∃ (pre' : List (Fin s.size)) (x : Fin s.size), pre = pre' ++ [x] ∧ (∀ y ∈ pre', s[y.1] = 255) ∧ s[x.1] ≠ 255 ∧
    Boxed W B 9 (.string (bs ((by_ s).take x.1 ++ [s[x.1] + 1]))) ∧ Boxed W (B + 1) 4 (.bool true)

def Miss (s : ByteArray) (pre : List (Fin s.size)) (W : World) (B : Nat) : Prop :=
  (∀ y ∈ pre, s[y.1] = 255) ∧ Boxed W B 9 (.string s) ∧ Boxed W (B + 1) 9 (.string ⟨#[]⟩) ∧ Boxed W (B + 1 + 1) 4 (.bool false)

theorem own_hit (s : ByteArray) (B : Nat) : Own (fun pre W => Hit s pre W B) := by
  rintro pre A Z row ⟨p, x, h1, h2, h3, h4, h5⟩ hg hr
  exact ⟨p, x, h1, h2, h3, boxed_own B _ (fun _ : Unit => _) () A Z row h4 hg hr, boxed_own (B + 1) _ (fun _ : Unit => _) () A Z row h5 hg hr⟩
theorem own_miss (s : ByteArray) (B : Nat) : Own (fun pre W => Miss s pre W B) := by
  rintro pre A Z row ⟨h1, h2, h3, h4⟩ hg hr
  exact ⟨h1, boxed_own B _ (fun _ : Unit => _) () A Z row h2 hg hr, boxed_own (B + 1) _ (fun _ : Unit => _) () A Z row h3 hg hr, boxed_own (B + 1 + 1) _ (fun _ : Unit => _) () A Z row h4 hg hr⟩

theorem by_get (s : ByteArray) (k : Nat) (h : k < s.size) : (by_ s)[k]? = some s[k] := by
  have e : s[k] = (by_ s)[k]'(by rw [size_by]; exact h) := rfl
  rw [e]; exact List.getElem?_eq_getElem _

theorem beyondV_none (s : ByteArray) (h : ∀ y ∈ (List.finRange s.size).reverse, s[y.1] = 255) : beyondV s = .tuple #[.string ⟨#[]⟩, .bool false] := by
  have : beyondL (by_ s) = none := beyondL_none _ (fun c hc => by
    obtain ⟨k, hk, rfl⟩ := List.mem_iff_getElem.1 hc
    rw [size_by] at hk
    exact h ⟨k, hk⟩ (by simp))
  simp [beyondV, this, bs]

theorem revs_split (s : ByteArray) (pre' : List (Fin s.size)) (x : Fin s.size) (h : (pre' ++ [x]) <+: (List.finRange s.size).reverse) (y : Fin s.size) (hy : x.1 < y.1) : y ∈ pre' := by
  have hl := List.prefix_iff_eq_take.1 h
  have hlen : pre'.length < s.size := by have := h.length_le; simp at this; omega
  have e : pre' ++ [x] = revs s.size (s.size - (pre'.length + 1)) := by
    rw [hl]; unfold revs; congr 1; simp; omega
  have e2 := revs_succ s.size (s.size - (pre'.length + 1)) (by omega)
  rw [← e] at e2
  have e3 := List.append_inj' e2 rfl
  have hx : x.1 = s.size - (pre'.length + 1) := by have := e3.2; simp at this; rw [← this]
  rw [← e3.1]
  unfold revs
  rw [List.mem_iff_getElem?]
  refine ⟨s.size - 1 - y.1, ?_⟩
  have hy2 := y.2
  rw [List.getElem?_take_of_lt (by omega), List.getElem?_eq_getElem (by simp; omega)]
  simp
  apply Fin.ext
  simp
  omega

theorem beyondV_some (s : ByteArray) (pre' : List (Fin s.size)) (x : Fin s.size) (h : (pre' ++ [x]) <+: (List.finRange s.size).reverse) (h1 : ∀ y ∈ pre', s[y.1] = 255) (h2 : s[x.1] ≠ 255) :
    beyondV s = .tuple #[.string (bs ((by_ s).take x.1 ++ [s[x.1] + 1])), .bool true] := by
  have e : by_ s = (by_ s).take x.1 ++ s[x.1] :: (by_ s).drop (x.1 + 1) := by
    have hx : x.1 < (by_ s).length := by rw [size_by]; exact x.2
    conv => lhs; rw [← List.take_append_drop x.1 (by_ s)]
    congr 1
    rw [List.drop_eq_getElem_cons hx]
    rfl
  have hb : beyondL (by_ s) = some ((by_ s).take x.1 ++ [s[x.1] + 1]) := by
    conv => lhs; rw [e]
    refine beyondL_some _ _ _ (fun c hc => ?_) h2
    obtain ⟨k, hk, rfl⟩ := List.mem_iff_getElem.1 hc
    simp at hk
    rw [size_by] at hk
    have hk' : x.1 + 1 + k < s.size := by omega
    have := h1 ⟨x.1 + 1 + k, hk'⟩ (revs_split s pre' x h _ (by simp; omega))
    rw [List.getElem_drop]
    exact this
  simp [beyondV, hb]

set_option maxRecDepth 100000 in
set_option maxHeartbeats 2000000 in
theorem beyond_any (s : ByteArray) (w : World) (hs : s.size ≤ 281474976710656) :
    Calls Try.prog 46 #[.string s] w fun e w' => e = .returned (beyondV s) ∧ Below w.heap.size w w' := by
  have hfld : ∀ w : World, (Instr.field 128 (Value.agg #[Value.string s]) 0).run Try.prog w = .ok (Value.agg #[Value.string s]) w := fun _ => by kernel_rfl
  refine (callsIn_wide (n := 5)).1 ?_
  refine callsIn_of_wp_marks Try.func46 rfl trivial ?_ rfl
  simp only [Try.ntmps46, List.size_toArray, List.length_cons, List.length_nil, Nat.reduceAdd, Nat.reduceSub, Array.replicate_succ, Array.replicate_zero, List.push_toArray, List.append_toArray, List.nil_append, List.cons_append]
  gi_wp2_with (refine ⟨trivial, ?_⟩; gi_at_call 63; refine (callsIn_wide.2 (back_any _ _)).mono ?_; rintro e w' ⟨rfl, rfl⟩)
  have c0 := Boxed.new w 9 (.string s)
  have c1 := Boxed.new (w.alloc (.cells #[.string s] 9)) 9 (.string ⟨#[]⟩)
  have c2 := Boxed.new ((w.alloc (.cells #[.string s] 9)).alloc (.cells #[.string ⟨#[]⟩] 9)) 4 (.bool false)
  have c3 := Boxed.new (((w.alloc (.cells #[.string s] 9)).alloc (.cells #[.string ⟨#[]⟩] 9)).alloc (.cells #[.bool false] 4)) 126 (.string s)
  simp only [World.size_alloc] at c1 c2 c3
  have hB0 : Below w.heap.size w ((((w.alloc (.cells #[.string s] 9)).alloc (.cells #[.string ⟨#[]⟩] 9)).alloc (.cells #[.bool false] 4)).alloc (.cells #[.string s] 126)) :=
    ((((Below.refl _ w).alloc (Nat.le_refl _) _).alloc (by simp) _).alloc (by simp; omega) _).alloc (by simp; omega) _
  have hM0 : Miss s [] ((((w.alloc (.cells #[.string s] 9)).alloc (.cells #[.string ⟨#[]⟩] 9)).alloc (.cells #[.bool false] 4)).alloc (.cells #[.string s] 126)) w.heap.size :=
    ⟨by simp, ((c0.alloc _).alloc _).alloc _, (c1.alloc _).alloc _, c2.alloc _⟩
  refine wpIn_rangeFunc_ownF rfl (by omega) (gf := 93) (lb := #[.pointer (some ⟨w.heap.size + 1 + 1 + 1, 0, none⟩)]) rfl trivial (enters_of Try.func93 (by kernel_rfl) rfl)
    (encs := fun x : Fin s.size => #[.int .i64 (x.1 : Nat), .int .u8 (s[x.1].toNat : Nat)]) (Kp := KeepB (w.heap.size + 1 + 1 + 1))
    (S := fun xs => xs = (List.finRange s.size).reverse) (Sp := fun pre => pre <+: (List.finRange s.size).reverse) (N := s.size)
    (fun l J Jx W hW _ _ hY h0 => back1_in 4 (by omega) l _ s hs J Jx hY W ((KeepB.below hW (by simp)).boxed c3) h0) KeepB.trans (KeepB.putObj (by simp)) (Below.refl _ _) (fun _ => rfl)
    (fun pre W => Miss s pre W w.heap.size ∧ Below w.heap.size w W)
    (fun c pre W => (c = .ret ∧ Hit s pre W (w.heap.size + 1)) ∧ Below w.heap.size w W)
    (OwnFrom.and (Own.from (own_miss _ _) _) (ownFrom_below (Nat.le_refl _) (by simp; omega)))
    (fun c => OwnFrom.and (OwnFrom.and (ownFrom_pure _ _) (Own.from (own_hit _ _) _)) (ownFrom_below (Nat.le_refl _) (by simp; omega)))
    ⟨hM0, hB0⟩
    (fun x => { tmps := #[.string s, .pointer (some ⟨w.heap.size, 0, none⟩), .pointer (some ⟨w.heap.size + 1, 0, none⟩), .pointer (some ⟨w.heap.size + 1 + 1, 0, none⟩), .int .i64 (x.1 : Nat), .int .u8 (s[x.1].toNat : Nat), .string s,
        .agg #[.string s], .agg #[.string s], .agg #[.string s], .func (.func 93) #[] #[.pointer (some ⟨w.heap.size + 1 + 1 + 1, 0, none⟩)], .int .i64 (x.1 : Nat), .int .u8 (s[x.1].toNat : Nat), undef, undef, undef, undef, undef, undef, undef, undef, undef, undef], defers := [] })
    ?assign ?body ?done ?stop
  case assign =>
    intro l x W K hK
    gi_wp2
    exact hK
  case body =>
    rintro l pre x W ⟨⟨h1, b0, b1, b2⟩, hB⟩ _
    have k0 := b0.cell
    have k1 := b1.cell
    have k2 := b2.cell
    have f1 := b1.frozen
    have f2 := b2.frozen
    have k0a := fun o => (b0.alloc o).cell
    have k1a := fun o => (b1.alloc o).cell
    have k2a := fun o => (b2.alloc o).cell
    have f1a := fun o => (b1.alloc o).frozen
    have f2a := fun o => (b2.alloc o).frozen
    have hx1 := x.2
    have hcv := fun n W c => conv1d (P := Try.prog) 130 9 5 Try.underlying130 Try.underlying5 Try.underlying9 n W c
    have hx2 : (x.1 : Int) ≤ s.size := by omega
    have hmix : Try.prog.follows .mixedOrders = true := by kernel_rfl
    have hend : ∀ W', (((W.alloc (.cells #[.int .u8 ((s[x.1].toNat : Int) + 1)] 5)).setCell ⟨w.heap.size + 1, 0, none⟩ (.string (s.extract 0 x.1 ++ ⟨#[s[x.1] + 1]⟩))).setCell ⟨w.heap.size + 1 + 1, 0, none⟩ (.bool true)).drew = W' → s[x.1] ≠ 255 →
        KeepsOthers W W' ∧ Hit s (pre ++ [x]) W' (w.heap.size + 1) ∧ Below w.heap.size w W' := by
      rintro W' rfl hne
      refine ⟨(((KeepsOthers.alloc W _).trans (KeepsOthers.setCell _ _ _)).trans (KeepsOthers.setCell _ _ _)).trans (KeepsOthers.drew _), ⟨pre, x, rfl, h1, hne, ?_, ?_⟩, ?_⟩
      · have e1 : s.extract 0 x.1 ++ ⟨#[s[x.1] + 1]⟩ = bs ((by_ s).take x.1 ++ [s[x.1] + 1]) := by
          rw [extract_bs]; rw [show (⟨#[s[x.1] + 1]⟩ : ByteArray) = bs [s[x.1] + 1] from rfl, bs_append]; simp
        rw [e1]
        have hb1 := (b1.alloc (.cells #[.int .u8 ((s[x.1].toNat : Int) + 1)] 5)).set (.string (bs ((by_ s).take x.1 ++ [s[x.1] + 1])))
        have hb3 := hb1.kept (grownBy_setCell' ((W.alloc (.cells #[.int .u8 ((s[x.1].toNat : Int) + 1)] 5)).setCell ⟨w.heap.size + 1, 0, none⟩ (.string (bs ((by_ s).take x.1 ++ [s[x.1] + 1])))) (w.heap.size + 1 + 1) (.bool true)) (by simp)
        exact hb3
      · have hb2 := (b2.alloc (.cells #[.int .u8 ((s[x.1].toNat : Int) + 1)] 5)).kept (grownBy_setCell' _ (w.heap.size + 1) (.string (s.extract 0 x.1 ++ ⟨#[s[x.1] + 1]⟩))) (by simp)
        exact hb2.set (.bool true)
      · exact (((hB.alloc hB.size _).setCell (p := ⟨w.heap.size + 1, 0, none⟩) (by simp) _).setCell (p := ⟨w.heap.size + 1 + 1, 0, none⟩) (by simp; omega) _).drew
    by_cases hlt : (s[x.1].toNat : Int) < 255
    · have hne : s[x.1] ≠ 255 := fun e => by rw [e] at hlt; simp at hlt
      have HE := Lib.hid (hend _ rfl hne)
      clear hend hne h1
      gi_wp2
      gi_region_elder_o
      all_goals
        gi_wp2
        exact ⟨HE.out.1, ⟨rfl, HE.out.2.1⟩, HE.out.2.2⟩
    · have he : s[x.1] = 255 := by
        apply UInt8.toNat_inj.1
        have := UInt8.toNat_lt s[x.1]
        simp; omega
      have HE := Lib.hid he
      clear he hend
      have hge : (255 : Int) ≤ (s[x.1].toNat : Int) := by omega
      clear hlt
      gi_wp2
      exact ⟨KeepsOthers.refl _, KeepB.refl _ _, ⟨fun y hy => (List.mem_append.1 hy).elim (h1 y) (fun e => by simp at e; subst e; exact HE.out), b0, b1, b2⟩, hB⟩
  case done =>
    rintro D ys W hD rfl ⟨⟨h1, _, b1, b2⟩, hB⟩ hK
    have hV := Lib.hid (beyondV_none s h1)
    clear h1
    have k1 := b1.cell
    have k2 := b2.cell
    have f1 := b1.frozen
    have f2 := b2.frozen
    gi_wp2
    have hK' := ((KeepsOthers.setCell W ⟨w.heap.size + 1, 0, none⟩ (.string ⟨#[]⟩)).trans (KeepsOthers.setCell _ ⟨w.heap.size + 1 + 1, 0, none⟩ (.bool false))).same D _ hK rfl
    refine ⟨by simp, .inl ⟨_, _, rfl, run_takeDeferred hK', ?_⟩⟩
    have b1' := (b1.set (.string ⟨#[]⟩)).kept (grownBy_setCell' (W.setCell ⟨w.heap.size + 1, 0, none⟩ (.string ⟨#[]⟩)) (w.heap.size + 1 + 1) (.bool false)) (by simp)
    have b2' := (b2.kept (grownBy_setCell' W (w.heap.size + 1) (.string ⟨#[]⟩)) (by simp)).set (.bool false)
    have q1 := (boxed_putNon b1' (.deferred none) hK' rfl).cell
    have q2 := (boxed_putNon b2' (.deferred none) hK' rfl).cell
    refine ⟨.tuple #[.string ⟨#[]⟩, .bool false], ?_, by rw [hV.out], ((hB.setCell (p := ⟨w.heap.size + 1, 0, none⟩) (by simp) _).setCell (p := ⟨w.heap.size + 1 + 1, 0, none⟩) (by simp; omega) _).trans (belowK_b (w := w) (Nat.le_refl _) _ D _ _ (by simp at hD; omega) hK' rfl rfl)⟩
    simp [results, Try.f46, go_sem, q1, q2]
  case stop =>
    rintro D c pre W hD hpre ⟨⟨rfl, pre', x, rfl, h1, h2, b1, b2⟩, hB⟩ hK
    have hV := Lib.hid (beyondV_some s pre' x hpre h1 h2)
    clear h1 h2 hpre
    gi_wp2
    refine ⟨by simp, .inl ⟨_, _, rfl, run_takeDeferred hK, ?_⟩⟩
    have q1 := (boxed_putNon b1 (.deferred none) hK rfl).cell
    have q2 := (boxed_putNon b2 (.deferred none) hK rfl).cell
    refine ⟨_, ?_, by rw [hV.out], hB.trans (belowK_b (w := w) (Nat.le_refl _) W D _ _ (by simp at hD; omega) hK rfl rfl)⟩
    simp [results, Try.f46, go_sem, q1, q2]
end Go.Proofs.Ytegccicplcjcmaa
