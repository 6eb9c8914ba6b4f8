/- Walks: the queries From, Between, Count of a walk. -/
import Derived.Test.YtegccicplcjcmaaWk2
import Derived.Test.YtegccicplcjcmaaWBound2
import Derived.Test.YtegccicplcjcmaaArtQ2
import Derived.Laws.CopyOwn
import Derived.Laws.MakeOwn
namespace Go.Proofs.Ytegccicplcjcmaa
open Go Go.RowKit Go.Shelf Go.Proofs Go.Sort
attribute [local go_sem] Oper.semAt_some

/-- An art that may be looked at: none, one without a map, or one of the pairs ps. -/
inductive Src (w : World) : Value → PS → Prop
  | none : Src w (.pointer none) []
  | zero (b : Nat) (h : w.heap[b]? = some (.cells #[.slice none 0 0, .map none] 39 (0, 0))) : Src w (.pointer (some ⟨b, 0, none⟩)) []
  | art {B b m : Nat} {v : Value} {ps : PS} (h : ArtAt w B b m v ps) : Src w (.pointer (some ⟨b, 0, none⟩)) ps

theorem Src.below {w w' : World} {av : Value} {ps : PS} (h : Src w av ps) (hb : Below w.heap.size w w') : Src w' av ps := by
  cases h with
  | none => exact .none
  | zero b h => exact .zero b ((hb.block b (Array.getElem?_eq_some_iff.1 h).1).trans h)
  | art h => exact .art (h.below hb)
theorem Src.ptr {w : World} {av : Value} {ps : PS} (h : Src w av ps) : ∃ a0, av = .pointer a0 := by cases h <;> exact ⟨_, rfl⟩
theorem Src.sorted {w : World} {av : Value} {ps : PS} (h : Src w av ps) : SortedP ps := by
  cases h with
  | none => exact List.Pairwise.nil
  | zero => exact List.Pairwise.nil
  | art h => exact h.sorted
theorem Src.small {w : World} {av : Value} {ps : PS} (h : Src w av ps) : ∀ p ∈ ps, p.1.size ≤ 1000 ∧ p.2.size ≤ 32 := by
  cases h with
  | none => simp
  | zero => simp
  | art h => exact h.small
theorem Src.small' {w : World} {av : Value} {ps : PS} (h : Src w av ps) : ∀ p ∈ ps, p.1.size ≤ 1000 ∧ p.2.size ≤ 1000 := fun p hp => by have := h.small p hp; omega

set_option maxRecDepth 100000 in
theorem none_nil (w : World) : Calls Try.prog 34 #[.pointer none] w fun e w' => e = .returned (.bool true) ∧ w' = w := by
  go_enter Try.func34, Try.ntmps34
  go_wp2
  go_ret
  exact ⟨rfl, rfl⟩
set_option maxRecDepth 100000 in
theorem none_zero (w : World) (b : Nat) (h : w.heap[b]? = some (.cells #[.slice none 0 0, .map none] 39 (0, 0))) : Calls Try.prog 34 #[.pointer (some ⟨b, 0, none⟩)] w fun e w' => e = .returned (.bool true) ∧ w' = w := by
  have c0 : w.cell? ⟨b, 1, none⟩ = some (.map none) := by simp [World.cell?, h]
  have hq := fun w => run_eql_map_nil_sl (P := Try.prog) w 37 _ _ none Try.underlying37
  go_enter Try.func34, Try.ntmps34
  go_wp2
  go_ret
  exact ⟨rfl, rfl⟩

set_option maxRecDepth 100000 in
theorem from_none (a0 : Option Addr) (f : ByteArray) (w : World) (HN : Hid (Calls Try.prog 34 #[.pointer a0] w fun e w' => e = .returned (.bool true) ∧ w' = w)) : FromIs (.pointer a0) f none w := by
  unfold FromIs hitV
  go_enter Try.func91, Try.ntmps91
  go_wp2_with (go_at_call 34; refine HN.out.mono ?_; rintro e w' ⟨rfl, rfl⟩)
  go_ret3
  exact ⟨rfl, Below.refl _ _⟩

set_option maxRecDepth 100000 in
theorem len_none (a0 : Option Addr) (w : World) (HN : Hid (Calls Try.prog 34 #[.pointer a0] w fun e w' => e = .returned (.bool true) ∧ w' = w)) : Calls Try.prog 24 #[.pointer a0] w fun e w' => e = .returned (.int .i64 0) ∧ w' = w := by
  go_enter Try.func24, Try.ntmps24
  go_wp2_with (go_at_call 34; refine HN.out.mono ?_; rintro e w' ⟨rfl, rfl⟩)
  go_ret
  exact ⟨rfl, rfl⟩

theorem src_from {w : World} {av : Value} {ps : PS} (h : Src w av ps) (hn : ps.length < 90000) (f : ByteArray) : FromIs av f ps[posP ps f]? w := by
  cases h with
  | none => exact from_none _ f w (Lib.hid (none_nil w))
  | zero b h => exact from_none _ f w (Lib.hid (none_zero w b h))
  | art h =>
    unfold FromIs
    rw [← afromV_hit]
    exact afrom_any w h hn f

theorem src_len {w : World} {av : Value} {ps : PS} (h : Src w av ps) (hn : ps.length < 90000) : Calls Try.prog 24 #[av] w fun e w' => e = .returned (.int .i64 (ps.length : Nat)) ∧ w' = w := by
  cases h with
  | none => exact len_none _ w (Lib.hid (none_nil w))
  | zero b h => exact len_none _ w (Lib.hid (none_zero w b h))
  | art h => exact len_any w h (by omega)

/-- The bounds of a tour lie between the pairs. -/
theorem bnd_pos {ps : PS} (hs : SortedP ps) (f0 : ByteArray) {k : Nat} (hk : k ≤ (ps.drop (posP ps f0)).length) : ps[posP ps (bndQ f0 (ps.drop (posP ps f0)) k)]? = (ps.drop (posP ps f0))[k]? := by
  cases k with
  | zero => simp [bndQ]
  | succ k =>
    obtain ⟨p, hp⟩ : ∃ p, (ps.drop (posP ps f0))[k]? = some p := ⟨_, List.getElem?_eq_getElem (by omega)⟩
    have hp2 := hp
    rw [List.getElem?_drop] at hp2
    simp only [bndQ, hp, Option.map_some, Option.getD_some]
    rw [pos_after hs hp2, List.getElem?_drop, Nat.add_assoc]

theorem src_steps {w : World} {av : Value} {ps : PS} (h : Src w av ps) (hn : ps.length < 90000) (f0 : ByteArray) {w1 : World} (hb : Below w.heap.size w w1) (cb : Nat) (hcb : w.heap.size ≤ cb) : ∀ k W', k ≤ (ps.drop (posP ps f0)).length → w1.grownBy W' (some cb) → FromIs av (bndQ f0 (ps.drop (posP ps f0)) k) (ps.drop (posP ps f0))[k]? W' := by
  intro k W' hk hg
  rw [← bnd_pos h.sorted f0 hk]
  refine src_from (h.below ?_) hn _
  exact hb.grown hg hb.size (fun j e => by cases e; exact hcb)

set_option maxRecDepth 100000 in
theorem between1_any (s t : ByteArray) (B : Nat) (w : World) (h : w.cell? ⟨B, 0, none⟩ = some (.string t)) :
    Calls Try.prog 50 #[.string s, .pointer (some ⟨B, 0, none⟩)] w fun e w' => e = .returned (.bool (upB t s)) ∧ w' = w := by
  unfold upB
  rw [← strEq]
  by_cases h2 : t.toList == ([] : List UInt8)
  · go_enter Try.func50, Try.ntmps50
    go_wp2
    go_ret
    exact ⟨ret_bool (by simpa using Or.inl (by simpa using h2)), rfl⟩
  · have h4 : (t.toList == ([] : List UInt8)) = false := by simpa using h2
    have h5 : Op.bytesLess s.toList t.toList = klt s t := by
      unfold klt
      rw [bytesLess_eq, toList_by, toList_by]
    go_enter Try.func50, Try.ntmps50
    go_wp2
    go_ret
    exact ⟨by simp_all, rfl⟩

set_option maxRecDepth 100000 in
theorem from1_any (s : ByteArray) (k : Nat) (n : Int) (B D : Nat) (w : World) (hk : k < 100000) (h : Boxed w B 3 (.int .i64 k)) (hD : w.cell? ⟨D, 0, none⟩ = some (.int .i64 n)) (hne : D ≠ B) :
    Calls Try.prog 51 #[.string s, .pointer (some ⟨B, 0, none⟩), .pointer (some ⟨D, 0, none⟩)] w fun e w' => e = .returned (.bool (decide ((k : Int) + 1 ≤ n))) ∧ w' = w.setCell ⟨B, 0, none⟩ (.int .i64 ((k + 1 : Nat) : Int)) := by
  have c0 := h.cell
  have f0 := h.frozen
  go_enter Try.func51, Try.ntmps51
  go_wp2
  go_ret
  exact ⟨rfl, by simp⟩

/-- A pair's cells behind a copy of pairs. -/
theorem run_copy_pairs (w : World) (ty : TypeId) (g : Nat) (cur : Array Value) (hg : w.heap[g]? = some (.cells cur 48 (0, 0))) (ps : PS) (n : Nat) (hl : ps.length = n) (hcur : cur.size = n * 2) (sa : Option Addr) (dc sc : Nat) (hs : IsPairs w sa n ps) :
    (Builtin.copy_ #[26, 26] ty #[.slice (some ⟨g, 0, none⟩) n dc, .slice sa n sc]).run Try.prog w = .ok (goInt n) (w.setRow g (pcells ps).toArray) := by
  obtain ⟨i0, hi, hz0, hz1, hz2⟩ := info_parts2 infoPair
  have hst := run_storeCells_at Try.prog g 0 48 (pcells ps) 0 cur w hg (by rw [pcells_length]; omega) (pcells_one ps)
  have e1 : cur.toList.take (0 + 0) ++ pcells ps ++ cur.toList.drop (0 + 0 + (pcells ps).length) = pcells ps := by
    have : (cur.toList.drop (0 + 0 + (pcells ps).length)) = [] := List.drop_of_length_le (by rw [pcells_length]; simp; omega)
    rw [this]; simp
  rw [e1] at hst
  have hmin : Nat.min n n = n := Nat.min_self n
  cases sa with
  | none =>
    have h0 : n = 0 := by
      rcases hs.2.2 with h | ⟨_, _, e, _⟩
      · exact h
      · cases e
    subst h0
    obtain rfl : ps = [] := List.eq_nil_of_length_eq_zero hl
    simp only [Builtin.copy_, Builtin.lenOf, Builtin.firstCells, sizeOf, typeInfo]
    simp [hi, go_sem]
    have hc0 : cur = #[] := Array.eq_empty_of_size_eq_zero (by omega)
    subst hc0
    exact (setRow_self w g #[] _ (0, 0) hg).symm
  | some a =>
    have hsrc : ∀ j v, (pcells ps)[j]? = some v → w.cell? (a.add j) = some v := by
      intro j v hj
      rcases hs.2.2 with h | ⟨g2, off, e, hg2, hc⟩
      · obtain rfl : ps = [] := List.eq_nil_of_length_eq_zero (by omega)
        simp [pcells] at hj
      · cases e
        obtain ⟨p, hp⟩ : ∃ p, ps[j / 2]? = some p := ⟨_, List.getElem?_eq_getElem (by have := (List.getElem?_eq_some_iff.1 hj).1; rw [pcells_length] at this; omega)⟩
        obtain ⟨c1, c2⟩ := hc (j / 2) p hp
        obtain ⟨e1, e2⟩ := pcells_get ps (j / 2) p hp
        rw [Addr.add_lit]
        rcases Nat.mod_two_eq_zero_or_one j with hm | hm
        · have hjj : j / 2 * 2 = j := by omega
          rw [hjj] at e1 c1
          rw [e1] at hj; cases hj
          exact c1
        · have hjj : j / 2 * 2 + 1 = j := by omega
          rw [hjj] at e2
          rw [Nat.add_assoc, hjj] at c2
          rw [e2] at hj; cases hj
          exact c2
    have hl2 := run_loadCells_list (P := Try.prog) (w := w) a (pcells ps) hsrc
    rw [pcells_length, hl] at hl2
    simp [Builtin.copy_, run_underlying Try.underlying26, Builtin.lenOf, Builtin.firstCells, sizeOf, typeInfo, hi, hz1, hl2, hst]

theorem wpList_copyP {ops : Array Oper} {rest : List Oper} {o : Oper} {a : Act} {Q : Exit → Act → World → Prop} (w : World) (hgd : o.guard = none) (d s : Operand)
    (ho : o.op = .call { callee := .builtin .copy, args := #[d, s], argTypes := #[26, 26] }) (g : Nat) (cur : Array Value) (hg : w.heap[g]? = some (.cells cur 48 (0, 0))) (ps : PS) (n : Nat) (hl : ps.length = n) (hcur : cur.size = n * 2)
    (sa : Option Addr) (dc sc : Nat) (hd : a.eval d = .slice (some ⟨g, 0, none⟩) n dc) (hx : a.eval s = .slice sa n sc) (hs : IsPairs w sa n ps)
    (h : ∀ w', w'.heap[g]? = some (.cells (pcells ps).toArray 48 (0, 0)) → w.grownBy w' (some g) → wpList Try.prog ops Q rest (a.put o.dst (goInt n)) w') : wpList Try.prog ops Q (o :: rest) a w := by
  refine wpList_plain hgd fun K hK => ?_
  have hrun := run_copy_pairs w o.type g cur hg ps n hl hcur sa dc sc hs
  unfold Oper.wp
  simp [execOp, ho, resolve, invoke, builtin, hd, hx, hrun, Result.andThen]
  exact hK _ _ (h _ (setRow_heap w g cur _ _ _ hg) ⟨rfl, rfl, rfl, by simp [World.setRow], fun k _ hk => setRow_other w g k _ (fun e => hk (by rw [e]))⟩)

theorem takeWhile_stop {α : Type} (f : α → Bool) : ∀ (l : List α) (p : α), l[(l.takeWhile f).length]? = some p → f p = false
  | [], p, h => by simp at h
  | a :: l, p, h => by
    cases e : f a with
    | true =>
      rw [List.takeWhile_cons, if_pos e, List.length_cons, List.getElem?_cons_succ] at h
      exact takeWhile_stop f l p h
    | false =>
      rw [List.takeWhile_cons, if_neg (by simp [e])] at h
      simp at h
      rw [← h]; exact e

theorem makeP (n : Nat) (hn : n < 100000) (w : World) : ∃ cur : Array Value, cur.size = n * 2 ∧ (Instr.makeSlice 26 (.int .i64 (n : Int)) (.int .i64 (n : Int))).run Try.prog w = .ok (.slice (some ⟨w.heap.size, 0, none⟩) n n) (w.alloc (.cells cur 48)) := by
  obtain ⟨i0, hi, hz0, hz1, hz2⟩ := info_parts2 infoPair
  refine ⟨_, ?_, run_makeSlice (P := Try.prog) (w := w) 26 48 i0 _ Try.underlying26 hi hz0 .i64 .i64 n n (by omega) (Int.le_refl _) (by rw [hz1]; omega) (by rw [hz2]; omega) (by omega)⟩
  rw [size_madeCells, hz1]
  simp

set_option maxRecDepth 100000 in
set_option maxHeartbeats 4000000 in
theorem wbetween_any {av : Value} {ps : PS} (w : World) (h : Src w av ps) (hn : ps.length < 90000) (s t : ByteArray) :
    Calls Try.prog 23 #[av, .string s, .string t] w fun e w' => ∃ pv, e = .returned pv ∧ PRow w' w.heap.size pv (btwP ps s t) ∧ Below w.heap.size w w' := by
  have hmf : ∀ (fn : Fn) (first cap : Array Value) (w : World), (Instr.makeFunc fn first cap).run Try.prog w = .ok (.func fn first cap) w := fun _ _ _ _ => rfl
  obtain ⟨a0, rfl⟩ := h.ptr
  obtain ⟨w1, hw1⟩ : ∃ w1, w.alloc (.cells #[.string t] 9) = w1 := ⟨_, rfl⟩
  have hb1 : Below w.heap.size w w1 := by rw [← hw1]; exact (Below.refl _ _).alloc (Nat.le_refl _) _
  have hs1 : w1.heap.size = w.heap.size + 1 := by rw [← hw1]; simp
  have hc1 : w1.cell? ⟨w.heap.size, 0, none⟩ = some (.string t) := by rw [← hw1]; simp
  have HBT : Hid (btwP ps s t = (ps.drop (posP ps s)).take ((ps.drop (posP ps s)).takeWhile (fun p => upB t p.1)).length) := Lib.hid (by
    rw [btw_eq h.sorted]
    exact (List.prefix_iff_eq_take.1 (List.takeWhile_prefix _)))
  obtain ⟨N, hN⟩ : ∃ N, N = ((ps.drop (posP ps s)).takeWhile (fun p => upB t p.1)).length := ⟨_, rfl⟩
  have HTW : Hid (∀ k p, k ≤ N → (ps.drop (posP ps s))[k]? = some p → upB t p.1 = decide (k < N)) := Lib.hid (fun k p hk hp => by
    by_cases hk2 : k < N
    · rw [decide_eq_true hk2]
      have h1 : ((ps.drop (posP ps s)).takeWhile (fun p => upB t p.1))[k]? = some p := by
        have := List.takeWhile_prefix (fun p : ByteArray × ByteArray => upB t p.1) (l := ps.drop (posP ps s))
        rw [List.prefix_iff_eq_take.1 this, List.getElem?_take_of_lt (by omega)]
        exact hp
      exact List.all_takeWhile (l := ps.drop (posP ps s)) (p := fun p => upB t p.1) |> fun h2 => List.all_eq_true.1 h2 p (List.mem_of_getElem? h1)
    · rw [decide_eq_false hk2]
      obtain rfl : k = N := by omega
      exact takeWhile_stop (fun p => upB t p.1) _ p (by rw [← hN]; exact hp))
  have hNl : N ≤ (ps.drop (posP ps s)).length := by rw [hN]; exact (List.takeWhile_sublist _).length_le
  have HW := Lib.hid (within_any a0 (.pointer a0) rfl s 50 #[.pointer (some ⟨w.heap.size, 0, none⟩)] (.func (.func 50) #[] #[.pointer (some ⟨w.heap.size, 0, none⟩)]) rfl w1 w.heap.size
    (enters_of Try.func50 (by kernel_rfl) rfl) (by omega) N (ps.drop (posP ps s)) hNl (by simp; omega) (fun p hp => (h.small p (List.mem_of_mem_drop hp)).1 )
    (fun _ W => W.heap[w.heap.size]? = w1.heap[w.heap.size]?) rfl (fun k W1 W2 h1 h2 => h2.trans h1) (src_steps h hn s hb1 w.heap.size (Nat.le_refl _))
    (fun k W' p hk hp hg hc => by
      refine (between1_any p.1 t w.heap.size W' ?_).mono ?_
      · rw [World.cell?_of_block hc]; exact hc1
      · rintro e W2 ⟨rfl, rfl⟩
        exact ⟨by rw [HTW.out k p hk hp], hc, ⟨rfl, rfl, rfl, Nat.le_refl _, fun _ _ _ => rfl⟩⟩))
  rw [← hN] at HBT
  rw [HBT.out]
  clear h HTW HBT hN
  go_enter Try.func23, Try.ntmps23
  go_wp2_with (first
    | (go_at_call 49; refine HW.out.mono ?_; rintro e w3 ⟨pv, rfl, hr, hg⟩))
  go_ret
  exact ⟨_, rfl, ownsRow_base hr (by omega), hb1.grown hg hb1.size (fun j e => by cases e; exact Nat.le_refl _)⟩

set_option maxRecDepth 100000 in
set_option maxHeartbeats 4000000 in
theorem wfrom_any {av : Value} {ps : PS} (w : World) (h : Src w av ps) (hn : ps.length < 90000) (s : ByteArray) (n : Int) :
    Calls Try.prog 27 #[av, .string s, .int .i64 n] w fun e w' => ∃ pv, e = .returned pv ∧ PRow w' w.heap.size pv (fromP ps s n) ∧ Below w.heap.size w w' := by
  have hmf : ∀ (fn : Fn) (first cap : Array Value) (w : World), (Instr.makeFunc fn first cap).run Try.prog w = .ok (.func fn first cap) w := fun _ _ _ _ => rfl
  obtain ⟨a0, rfl⟩ := h.ptr
  obtain ⟨w1, hw1⟩ : ∃ w1, (w.alloc (.cells #[.int .i64 n] 3)).alloc (.cells #[.int .i64 0] 3) = w1 := ⟨_, rfl⟩
  have hb1 : Below w.heap.size w w1 := by rw [← hw1]; exact ((Below.refl _ _).alloc (Nat.le_refl _) _).alloc (by simp) _
  have hs1 : w1.heap.size = w.heap.size + 1 + 1 := by rw [← hw1]; simp
  have hm0 : w1.heap[w.heap.size]? = some (.cells #[.int .i64 n] 3 (0, 0)) := by rw [← hw1]; exact key1 _ _ _ _ (World.alloc_heap_new _ _)
  have hm1 : Boxed w1 (w.heap.size + 1) 3 (.int .i64 0) := by
    rw [← hw1]
    have := World.alloc_heap_new (w.alloc (.cells #[.int .i64 n] 3)) (.cells #[.int .i64 0] 3)
    rw [World.size_alloc] at this
    exact this
  obtain ⟨N, hN⟩ : ∃ N, N = min n.toNat (ps.drop (posP ps s)).length := ⟨_, rfl⟩
  have hBT : fromP ps s n = (ps.drop (posP ps s)).take N := by
    unfold fromP
    rw [hN, List.take_eq_take_min]
  have hNl : N ≤ (ps.drop (posP ps s)).length := by omega
  have hdl : (ps.drop (posP ps s)).length ≤ ps.length := by simp
  have HW := Lib.hid (within_any a0 (.pointer a0) rfl s 51 #[.pointer (some ⟨w.heap.size + 1, 0, none⟩), .pointer (some ⟨w.heap.size, 0, none⟩)] (.func (.func 51) #[] #[.pointer (some ⟨w.heap.size + 1, 0, none⟩), .pointer (some ⟨w.heap.size, 0, none⟩)]) rfl w1 (w.heap.size + 1)
    (enters_of Try.func51 (by kernel_rfl) rfl) (by omega) N (ps.drop (posP ps s)) hNl (by omega) (fun p hp => (h.small p (List.mem_of_mem_drop hp)).1 )
    (fun k W => Boxed W (w.heap.size + 1) 3 (.int .i64 (k : Nat))) hm1 (fun k W1 W2 h1 h2 => h2.trans h1) (src_steps h hn s hb1 (w.heap.size + 1) (by omega))
    (fun k W' p hk hp hg hc => by
      have hkl := (List.getElem?_eq_some_iff.1 hp).1
      refine (from1_any p.1 k n (w.heap.size + 1) w.heap.size W' (by omega) hc ?_ (by omega)).mono ?_
      · rw [World.cell?_of_block (hg.block w.heap.size (by omega) (by simp))]
        simp [World.cell?, hm0]
      · rintro e W2 ⟨rfl, rfl⟩
        refine ⟨?_, hc.set _, grownBy_setCell' _ _ _⟩
        congr 2
        exact decide_eq_decide.2 (by omega)))
  have HSM := Lib.hid (fun p (hp : p ∈ fromP ps s n) => h.small' p (List.mem_of_mem_drop (List.mem_of_mem_take hp)))
  rw [← hBT] at HW
  have hLN : (fromP ps s n).length < 100000 := by rw [hBT, List.length_take]; omega
  obtain ⟨Q, hQ⟩ : ∃ Q, Q = fromP ps s n := ⟨_, rfl⟩
  rw [← hQ] at HW HSM hLN ⊢
  have HW1 := Lib.hid hw1
  clear h hBT hN hQ hm0 hm1 hNl hdl hw1
  go_enter Try.func27, Try.ntmps27
  go_wp2_with (first
    | (go_at_call 49; rw [HW1.out]; refine HW.out.mono ?_; rintro e w3 ⟨pv, rfl, hr, hg⟩; obtain ⟨pa, pc, rfl, hi3, _⟩ := prow_is hr HSM.out; obtain ⟨cur, hcs, hmk⟩ := makeP Q.length hLN w3; have hi4 := hi3.below ((Below.refl _ _).alloc (Nat.le_refl _) (.cells cur 48)); have HR := Lib.hid hr; have HI4 := Lib.hid hi4; clear hr hi3 hi4)
    | (refine wpList_copyP _ rfl (.tmp 18) (.tmp 19) rfl w3.heap.size cur (World.alloc_heap_new _ _) Q Q.length rfl hcs _ _ _ rfl rfl HI4.out ?_; intro w5 hg5 hgr5))
  go_ret
  have h3 := hb1.grown hg hb1.size (fun j e => by cases e; omega)
  have h4 := h3.alloc h3.size (.cells cur 48)
  have hsz := h3.size
  refine ⟨_, rfl, ⟨by rw [pcells_length], .inr ⟨w3.heap.size, Q.length, (pcells Q).toArray, rfl, hsz, hg5, Nat.le_refl _, by unfold maxLen; omega, by simp [pcells_length], by rw [List.toList_toArray, List.take_of_length_le (by rw [pcells_length]; exact Nat.le_refl _)]⟩⟩, h4.grown hgr5 h4.size (fun j e => by cases e; exact hsz)⟩

set_option maxRecDepth 100000 in
set_option maxHeartbeats 4000000 in
theorem wcount_any {av : Value} {ps : PS} (w : World) (h : Src w av ps) (hn : ps.length < 90000) (s t : ByteArray) :
    Calls Try.prog 21 #[av, .string s, .string t] w fun e w' => e = .returned (.int .i64 ((btwP ps s t).length : Nat)) ∧ Below w.heap.size w w' := by
  have HW := Lib.hid (wbetween_any w h hn s t)
  obtain ⟨a0, rfl⟩ := h.ptr
  generalize btwP ps s t = Q at HW ⊢
  clear h
  go_enter Try.func21, Try.ntmps21
  go_wp2_with (go_at_call 23; refine HW.out.mono ?_; rintro e w3 ⟨pv, rfl, hr, hb⟩; obtain ⟨pa, pc, rfl⟩ := row2_slice hr; have HR := Lib.hid hr; clear hr)
  go_ret
  exact ⟨rfl, hb⟩

theorem beyV_eq (p : ByteArray) : beyondV p = .tuple #[.string (beyB p), .bool (beyondL (by_ p)).isSome] := rfl

set_option maxRecDepth 100000 in
set_option maxHeartbeats 4000000 in
theorem wbegin_any {av : Value} {ps : PS} (w : World) (h : Src w av ps) (hn : ps.length < 90000) (p : ByteArray) (hp : p.size ≤ 281474976710656) :
    Calls Try.prog 18 #[av, .string p] w fun e w' => ∃ pv, e = .returned pv ∧ PRow w' w.heap.size pv (begP ps p) ∧ Below w.heap.size w w' := by
  have HB := Lib.hid (beyond_any p w hp)
  rw [beyV_eq] at HB
  rw [beg_btw]
  have HW := Lib.hid (fun w' (hb : Below w.heap.size w w') => wbetween_any w' (h.below hb) hn p (beyB p))
  obtain ⟨a0, rfl⟩ := h.ptr
  generalize (beyondL (by_ p)).isSome = q at HB
  generalize btwP ps p (beyB p) = Q at HW ⊢
  generalize beyB p = t at HB HW
  clear h
  go_enter Try.func18, Try.ntmps18
  go_wp2_with (first
    | (go_at_call 46; refine HB.out.mono ?_; rintro e w2 ⟨rfl, hb2⟩)
    | (go_at_call 23; refine (HW.out _ hb2).mono ?_; rintro e w3 ⟨pv, rfl, hr, hb⟩))
  go_ret
  have := hb2.size
  exact ⟨_, rfl, ownsRow_base hr (by omega), below_chain hb2 hb⟩

theorem outone (w : World) : ∀ w', Below (w.alloc (.cells #[.string ⟨#[]⟩, .string ⟨#[]⟩] 48)).heap.size (w.alloc (.cells #[.string ⟨#[]⟩, .string ⟨#[]⟩] 48)) w' →
    w'.cell? ⟨w.heap.size, 0, none⟩ = some (.string ⟨#[]⟩) ∧ w'.cell? ⟨w.heap.size, 1, none⟩ = some (.string ⟨#[]⟩) ∧ (∀ j, w'.frozen? ⟨w.heap.size, j, none⟩ = false) := by
  intro w' hb
  have e3 := (hb.block w.heap.size (by simp)).trans (World.alloc_heap_new w (.cells #[.string ⟨#[]⟩, .string ⟨#[]⟩] 48))
  refine ⟨?_, ?_, fun j => ?_⟩ <;> simp [World.cell?, World.frozen?, e3]

set_option maxRecDepth 100000 in
set_option maxHeartbeats 4000000 in
theorem wnth_any {av : Value} {ps : PS} (w : World) (h : Src w av ps) (hn : ps.length < 90000) (n : Int) :
    Calls Try.prog 29 #[av, .int .i64 n] w fun e w' => e = .returned (refnthV ps n) ∧ Below w.heap.size w w' := by
  unfold refnthV
  have hB1 := (Below.refl w.heap.size w).alloc (Nat.le_refl _) (.cells #[.string ⟨#[]⟩, .string ⟨#[]⟩] 48)
  by_cases h1 : n < 0
  · rw [if_pos h1]
    obtain ⟨a0, rfl⟩ := h.ptr
    clear h
    go_enter Try.func29, Try.ntmps29
    go_wp2
    refine bodyPost_ret (v := .tuple #[pairV (⟨#[]⟩, ⟨#[]⟩), .bool false]) ?_ rfl ⟨rfl, ?_⟩
    · unfold pairV
      rw [results_cell_tmp rfl]
      go_simp
    · exact hB1
  · rw [if_neg h1]
    have HL := Lib.hid (fun w' (hb : Below w.heap.size w w') => src_len (h.below hb) hn)
    by_cases h2 : n < (ps.length : Int)
    · obtain ⟨k, rfl⟩ : ∃ k : Nat, n = k := ⟨n.toNat, by omega⟩
      obtain ⟨p, hp⟩ : ∃ p, ps[k]? = some p := ⟨_, List.getElem?_eq_getElem (by omega)⟩
      rw [show (k : Int).toNat = k from rfl, hp]
      obtain ⟨g1, g2⟩ := from_get hp
      have HW := Lib.hid (fun w' (hb : Below w.heap.size w w') => wfrom_any w' (h.below hb) hn ⟨#[]⟩ ((k : Int) + 1))
      have HSM := Lib.hid (fun p (hp : p ∈ fromP ps ⟨#[]⟩ ((k : Int) + 1)) => h.small' p (List.mem_of_mem_drop (List.mem_of_mem_take hp)))
      obtain ⟨a0, rfl⟩ := h.ptr
      generalize fromP ps ⟨#[]⟩ ((k : Int) + 1) = Q at HW HSM g1 g2
      have HG := Lib.hid g1
      have hkp : ¬ (ps.length : Int) ≤ (k : Int) := by omega
      obtain ⟨p1, p2⟩ := p
      have hfld : ∀ w : World, (Instr.field 82 (Value.agg #[Value.pointer a0]) 0).run Try.prog w = .ok (Value.pointer a0) w := fun _ => by kernel_rfl
      clear h hp g1
      go_enter Try.func29, Try.ntmps29
      go_wp2_with (first
        | (go_at_call 24; refine (HL.out _ hB1).mono ?_; rintro e w' ⟨rfl, rfl⟩)
        | (go_at_call 27; refine (HW.out _ hB1).mono ?_; rintro e w3 ⟨pv, rfl, hr, hb⟩; obtain ⟨pa, pc, rfl, hi, _⟩ := prow_is hr HSM.out; rw [g2] at hi; obtain ⟨g, off, rfl, hg, hc⟩ := hi.2.2.resolve_left (by omega); obtain ⟨c1, c2⟩ := hc k (p1, p2) HG.out; simp only at c1 c2; obtain ⟨x0, x1, xf⟩ := outone w _ hb; clear hc hr))
      refine bodyPost_ret (v := .tuple #[pairV (p1, p2), .bool true]) ?_ rfl ⟨rfl, ?_⟩
      · unfold pairV
        simp [results, Try.f29, go_sem, x0, x1]
      · exact (hB1.trans (hb.mono hB1.size)).setCell (p := ⟨w.heap.size, 0, none⟩) (by simp) _ |>.setCell (p := ⟨w.heap.size, 1, none⟩) (by simp) _
    · rw [List.getElem?_eq_none (by omega)]
      have h3 : (ps.length : Int) ≤ n := by omega
      obtain ⟨a0, rfl⟩ := h.ptr
      have hfld : ∀ w : World, (Instr.field 82 (Value.agg #[Value.pointer a0]) 0).run Try.prog w = .ok (Value.pointer a0) w := fun _ => by kernel_rfl
      clear h
      go_enter Try.func29, Try.ntmps29
      go_wp2_with (first
        | (go_at_call 24; refine (HL.out _ hB1).mono ?_; rintro e w' ⟨rfl, rfl⟩))
      refine bodyPost_ret (v := .tuple #[pairV (⟨#[]⟩, ⟨#[]⟩), .bool false]) ?_ rfl ⟨rfl, ?_⟩
      · unfold pairV
        rw [results_cell_tmp rfl]
        go_simp
      · exact hB1

end Go.Proofs.Ytegccicplcjcmaa
