/- append of pairs as a step of a list of operations; rows of pairs under stores elsewhere. -/
import Derived.Test.YtegccicplcjcmaaWkP
import Derived.Test.YtegccicplcjcmaaLessR04
import Derived.Test.YtegccicplcjcmaaPairK
import Derived.Deep.RegionWith
import Derived.Test.YtegccicplcjcmaaBkApp
/- Walks: the reading methods of the reference model of an art. -/
namespace Go.Proofs.Ytegccicplcjcmaa
open Go Go.RowKit Go.Shelf Go.Proofs
attribute [local go_sem] Oper.semAt_some

theorem refless_val (a b : ByteArray) (w : World) (ha : a.size ≤ 281474976710656) {r : Bool} (hr : klt a b = r) :
    Calls Try.prog 52 #[.string a, .string b] w fun e w' => e = .returned (.bool r) ∧ Below w.heap.size w w' := by
  subst hr
  exact refless04_any a b w ha

/-- The cells of a reference model that came in by value. -/
theorem refbox (w : World) (x : Value) : ∀ w', Below (w.heap.size + 1) (w.alloc (.cells #[x] 28)) w' → w'.cell? ⟨w.heap.size, 0, none⟩ = some x := by
  intro w' hb
  have e := (hb.block w.heap.size (by omega)).trans (World.alloc_heap_new w (.cells #[x] 28))
  simp [World.cell?, e]

set_option maxRecDepth 100000 in
set_option maxHeartbeats 4000000 in
theorem refat_any (a : Option Addr) (len cap : Nat) (ps : PS) (w : World) (h : IsPairs w a len ps) (hl : len < 100000) (hs : SortedP ps) (s : ByteArray) :
    Calls Try.prog 31 #[.agg #[.slice a len cap], .string s] w fun e w' => e = .returned (.int .i64 (posP ps s)) ∧ Below w.heap.size w w' := by
  obtain ⟨w1, hw1⟩ : ∃ w1, w1 = w.alloc (.cells #[.slice a len cap] 28) := ⟨_, rfl⟩
  have hB1 : Below w.heap.size w w1 := by rw [hw1]; exact (Below.refl _ _).alloc (Nat.le_refl _) _
  have hs1 : w1.heap.size = w.heap.size + 1 := by rw [hw1]; simp
  have HC := Lib.hid (refbox w (.slice a len cap))
  rw [← hw1, ← hs1] at HC
  have HP := Lib.hid (h.below hB1)
  have hpl := posP_le ps s
  have hlen := h.1
  have HX := Lib.hid (fun t p (hp : ps[t]? = some p) => less_at hs s hp)
  have hB0 := Below.refl w1.heap.size w1
  generalize posP ps s = N at hpl HX ⊢
  clear h
  go_enter Try.func31, Try.ntmps31
  go_wp2
  rw [← hw1]
  clear hw1
  go_loopw [5] (fun i wr => ∃ k : Nat, k ≤ N ∧ i = .int .i64 k ∧ Below w1.heap.size w1 wr) (fun i _ => N - (intOf i).toNat)
  case atStart => exact ⟨0, Nat.zero_le _, rfl, hB0⟩
  case round =>
    obtain ⟨k, hk, rfl, hB⟩ := hrel
    clear hB0
    have c0 := HC.out _ hB
    by_cases hk2 : k < len
    · obtain ⟨p, hpk⟩ : ∃ p, ps[k]? = some p := ⟨_, List.getElem?_eq_getElem (by omega)⟩
      obtain ⟨g, off, rfl, hg, hc⟩ := (HP.out.below hB).2.2.resolve_left (by omega)
      obtain ⟨e1, e2⟩ := hc k p hpk
      have hz := (HP.out.2.1 p (List.mem_of_getElem? hpk)).1
      have hX := HX.out k p hpk
      obtain ⟨p1, p2⟩ := p
      simp only at e1 e2 hz hX
      clear hpk hc
      by_cases hkN : k < N
      · have HL := Lib.hid (fun W => refless_val p1 s W (by omega) (hX.1 hkN))
        clear hX
        go_wp2_with (go_at_call 52; refine (HL.out _).mono ?_; rintro e w3 ⟨rfl, hn3⟩)
        go_roundw
        case rel => exact ⟨k + 1, by omega, by go_num, hB.trans (hn3.mono hB.size)⟩
        case measure => simp [intOf]; omega
      · obtain rfl : k = N := by omega
        have HL := Lib.hid (fun W => refless_val p1 s W (by omega) (hX.2 (Nat.le_refl _)))
        clear hX
        go_wp2_with (go_at_call 52; refine (HL.out _).mono ?_; rintro e w3 ⟨rfl, hn3⟩)
        go_ret
        exact ⟨rfl, hB1.trans ((hB.trans (hn3.mono hB.size)).mono (by omega))⟩
    · obtain rfl : k = N := by omega
      go_wp2
      go_ret
      exact ⟨rfl, hB1.trans (hB.mono (by omega))⟩

end Go.Proofs.Ytegccicplcjcmaa

/- Walks: has, Get, From of the reference model of an art. -/
namespace Go.Proofs.Ytegccicplcjcmaa
open Go Go.RowKit Go.Shelf Go.Proofs
attribute [local go_sem] Oper.semAt_some

set_option maxRecDepth 100000 in
set_option maxHeartbeats 4000000 in
theorem refhas_any (a : Option Addr) (len cap : Nat) (ps : PS) (w : World) (h : IsPairs w a len ps) (hl : len < 100000) (hs : SortedP ps) (s : ByteArray) :
    Calls Try.prog 32 #[.agg #[.slice a len cap], .string s] w fun e w' => e = .returned (.bool (getP ps s).isSome) ∧ Below w.heap.size w w' := by
  obtain ⟨w1, hw1⟩ : ∃ w1, w1 = w.alloc (.cells #[.slice a len cap] 28) := ⟨_, rfl⟩
  have hB1 : Below w.heap.size w w1 := by rw [hw1]; exact (Below.refl _ _).alloc (Nat.le_refl _) _
  have hs1 : w1.heap.size = w.heap.size + 1 := by rw [hw1]; simp
  have HC := Lib.hid (refbox w (.slice a len cap))
  rw [← hw1, ← hs1] at HC
  have HP := Lib.hid (h.below hB1)
  have HA := Lib.hid (refat_any a len cap ps w1 HP.out hl hs s)
  rw [hw1] at HA
  have hpl := posP_le ps s
  have hlen := h.1
  have HG := Lib.hid (fun v (hv : getP ps s = some v) => get_at hs hv)
  have HN := Lib.hid (fun (hv : getP ps s = none) p (hp : ps[posP ps s]? = some p) => not_at hv hp)
  generalize posP ps s = N at hpl HG HN HA
  clear h
  by_cases hk2 : N < len
  · obtain ⟨p, hpk⟩ : ∃ p, ps[N]? = some p := ⟨_, List.getElem?_eq_getElem (by omega)⟩
    have hkey : (getP ps s).isSome = decide (p.1 = s) := by
      cases hg : getP ps s with
      | none => simpa using HN.out hg p hpk
      | some v => have := (HG.out v hg).1; rw [hpk] at this; cases this; simp
    rw [hkey]
    have HPK := Lib.hid hpk
    have HQ := Lib.hid (fun W (hb : Below w1.heap.size w1 W) => (HP.out.below hb).2.2.resolve_left (by omega))
    obtain ⟨g, off, rfl, hg, _⟩ := HQ.out _ (Below.refl _ _)
    have HE := Lib.hid (fun W (hb : Below w1.heap.size w1 W) => show W.cell? ⟨g, off + N * 2, none⟩ = some (.string p.1) by
      obtain ⟨g', off', e, _, hc⟩ := HQ.out W hb
      cases e
      exact (hc N p hpk).1)
    obtain ⟨p1, p2⟩ := p
    simp only at HE ⊢
    rw [← strEq]
    clear hpk hkey HPK HG HN
    go_enter Try.func32, Try.ntmps32
    go_wp2_with (go_at_call 31; refine HA.out.mono ?_; rintro e w3 ⟨rfl, hn3⟩; rw [← hw1] at hn3; have c0 := HC.out _ hn3; have c3 := HE.out _ hn3)
    go_ret
    exact ⟨rfl, hB1.trans (hn3.mono (by omega))⟩
  · obtain rfl : N = len := by omega
    have hkey : (getP ps s).isSome = false := by
      cases hg : getP ps s with
      | none => rfl
      | some v => have := (HG.out v hg).2; omega
    rw [hkey]
    clear hkey HG HN
    go_enter Try.func32, Try.ntmps32
    go_wp2_with (go_at_call 31; refine HA.out.mono ?_; rintro e w3 ⟨rfl, hn3⟩; rw [← hw1] at hn3; have c0 := HC.out _ hn3)
    go_ret
    exact ⟨rfl, hB1.trans (hn3.mono (by omega))⟩

def reffromV (ps : PS) (s : ByteArray) : Value := match ps[posP ps s]? with
  | none => .tuple #[.string ⟨#[]⟩, .string ⟨#[]⟩, .bool false]
  | some p => .tuple #[.string p.1, .string p.2, .bool true]

set_option maxRecDepth 100000 in
set_option maxHeartbeats 4000000 in
theorem reffrom_any (a : Option Addr) (len cap : Nat) (ps : PS) (w : World) (h : IsPairs w a len ps) (hl : len < 100000) (hs : SortedP ps) (s : ByteArray) :
    Calls Try.prog 45 #[.agg #[.slice a len cap], .string s] w fun e w' => e = .returned (reffromV ps s) ∧ Below w.heap.size w w' := by
  obtain ⟨w1, hw1⟩ : ∃ w1, w1 = w.alloc (.cells #[.slice a len cap] 28) := ⟨_, rfl⟩
  have hB1 : Below w.heap.size w w1 := by rw [hw1]; exact (Below.refl _ _).alloc (Nat.le_refl _) _
  have hs1 : w1.heap.size = w.heap.size + 1 := by rw [hw1]; simp
  have HC := Lib.hid (refbox w (.slice a len cap))
  rw [← hw1, ← hs1] at HC
  have HP := Lib.hid (h.below hB1)
  have HA := Lib.hid (refat_any a len cap ps w1 HP.out hl hs s)
  rw [hw1] at HA
  have hpl := posP_le ps s
  have hlen := h.1
  unfold reffromV
  generalize posP ps s = N at hpl HA ⊢
  clear h
  by_cases hk2 : N < len
  · obtain ⟨p, hpk⟩ : ∃ p, ps[N]? = some p := ⟨_, List.getElem?_eq_getElem (by omega)⟩
    rw [hpk]
    have HPK := Lib.hid hpk
    have HQ := Lib.hid (fun W (hb : Below w1.heap.size w1 W) => (HP.out.below hb).2.2.resolve_left (by omega))
    obtain ⟨g, off, rfl, hg, _⟩ := HQ.out _ (Below.refl _ _)
    have HE := Lib.hid (fun W (hb : Below w1.heap.size w1 W) => show W.cell? ⟨g, off + N * 2, none⟩ = some (.string p.1) ∧ W.cell? ⟨g, off + N * 2 + 1, none⟩ = some (.string p.2) by
      obtain ⟨g', off', e, _, hc⟩ := HQ.out W hb
      cases e
      exact hc N p hpk)
    obtain ⟨p1, p2⟩ := p
    simp only at HE ⊢
    have hne : ¬ N = len := by omega
    clear hpk HPK
    go_enter Try.func45, Try.ntmps45
    go_wp2_with (go_at_call 31; refine HA.out.mono ?_; rintro e w3 ⟨rfl, hn3⟩; rw [← hw1] at hn3; have c0 := HC.out _ hn3; obtain ⟨c3, c4⟩ := HE.out _ hn3)
    go_quiet (fail)
    go_wp2
    go_ret3
    exact ⟨rfl, hB1.trans ((below_drewN _ hn3).mono (by omega))⟩
  · obtain rfl : N = len := by omega
    rw [List.getElem?_eq_none (by omega)]
    go_enter Try.func45, Try.ntmps45
    go_wp2_with (go_at_call 31; refine HA.out.mono ?_; rintro e w3 ⟨rfl, hn3⟩; rw [← hw1] at hn3; have c0 := HC.out _ hn3)
    go_ret3
    exact ⟨rfl, hB1.trans (hn3.mono (by omega))⟩

end Go.Proofs.Ytegccicplcjcmaa

namespace Go.Proofs.Ytegccicplcjcmaa
open Go Go.RowKit Go.Shelf Go.Proofs
attribute [local go_sem] Oper.semAt_some

theorem pairs_cells {w : World} {g off n : Nat} {ps : PS} (h : IsPairs w (some ⟨g, off, none⟩) n ps) : ∀ jj u, (pcells ps)[jj]? = some u → w.cell? ((⟨g, off, none⟩ : Addr).add jj) = some u := by
  intro jj u hu
  have hj : jj < ps.length * 2 := by have := (List.getElem?_eq_some_iff.1 hu).1; rwa [pcells_length] at this
  have hn := h.1
  obtain ⟨g', off', e, hg, hc⟩ := h.2.2.resolve_left (by omega)
  cases e
  obtain ⟨p, hp⟩ : ∃ p, ps[jj / 2]? = some p := ⟨_, List.getElem?_eq_getElem (by omega)⟩
  obtain ⟨c1, c2⟩ := hc (jj / 2) p hp
  obtain ⟨e1, e2⟩ := pcells_get ps (jj / 2) p hp
  rw [Addr.add_lit]
  rcases Nat.mod_two_eq_zero_or_one jj with hm | hm
  · have hjj : jj / 2 * 2 = jj := by omega
    rw [hjj] at e1 c1
    rw [e1] at hu; cases hu
    exact c1
  · have hjj : jj / 2 * 2 + 1 = jj := by omega
    rw [hjj] at e2
    rw [Nat.add_assoc, hjj] at c2
    rw [e2] at hu; cases hu
    exact c2

theorem ispairs_take {w : World} {a : Option Addr} {len : Nat} {ps : PS} (h : IsPairs w a len ps) {n : Nat} (hn : n ≤ len) : IsPairs w a n (ps.take n) := by
  obtain ⟨h1, h2, h3⟩ := h
  refine ⟨by simp; omega, fun p hp => h2 p (List.mem_of_mem_take hp), ?_⟩
  rcases h3 with h3 | ⟨g, off, rfl, hg, hc⟩
  · exact .inl (by omega)
  · refine .inr ⟨g, off, rfl, hg, fun j p hp => hc j p ?_⟩
    have hj : j < n := by have := (List.getElem?_eq_some_iff.1 hp).1; simp at this; omega
    rwa [List.getElem?_take_of_lt hj] at hp

theorem ispairs_drop {w : World} {g off : Nat} {len : Nat} {ps : PS} (h : IsPairs w (some ⟨g, off, none⟩) len ps) {n : Nat} (hn : n ≤ len) : IsPairs w (some ⟨g, off + n * 2, none⟩) (len - n) (ps.drop n) := by
  obtain ⟨h1, h2, h3⟩ := h
  refine ⟨by simp; omega, fun p hp => h2 p (List.mem_of_mem_drop hp), ?_⟩
  rcases h3 with h3 | ⟨g', off', e, hg, hc⟩
  · exact .inl (by omega)
  · cases e
    refine .inr ⟨g, _, rfl, hg, fun j p hp => ?_⟩
    rw [List.getElem?_drop] at hp
    have := hc (n + j) p hp
    rw [show off + n * 2 + j * 2 = off + (n + j) * 2 from by omega]
    exact this

theorem ispairs_drop0 {w : World} {g : Nat} {len : Nat} {ps : PS} (h : IsPairs w (some ⟨g, 0, none⟩) len ps) {n : Nat} (hn : n ≤ len) : IsPairs w (some ⟨g, n * 2, none⟩) (len - n) (ps.drop n) := by
  have := ispairs_drop h hn
  rwa [Nat.zero_add] at this

theorem ispairs_nil (w : World) (a : Option Addr) {ps : PS} (h : ps = []) : IsPairs w a 0 ps := by subst h; exact ⟨rfl, by simp, .inl rfl⟩

theorem pown_zero (w : World) (B : Nat) (hB : B ≤ w.heap.size) : (w.alloc (.cells #[] 48)).ownsRow B 48 2 (.slice (some ⟨w.heap.size, 0, none⟩) 0 0) 0 (pcells []) :=
  ⟨rfl, .inr ⟨w.heap.size, 0, #[], rfl, hB, World.alloc_heap_new _ _, Nat.le_refl _, Nat.zero_le _, rfl, rfl⟩⟩

/-- append of a slice of pairs onto an own row. -/
theorem wpList_appP {ops : Array Oper} {rest : List Oper} {o : Oper} {a : Act} {Q : Exit → Act → World → Prop} (w : World) (hgd : o.guard = none) (s x : Operand)
    (ho : o.op = .call { callee := .builtin .append, args := #[s, x], argTypes := #[26, 26] }) (B g n c : Nat) (xs : PS) (hs : a.eval s = .slice (some ⟨g, 0, none⟩) n c)
    (hown : w.ownsRow B 48 2 (.slice (some ⟨g, 0, none⟩) n c) n (pcells xs)) (xa : Option Addr) (m xc : Nat) (news : PS) (hx : a.eval x = .slice xa m xc) (hxc : xa = none → xc = 0)
    (hp : IsPairs w xa m news) (hB : B ≤ w.heap.size) (hnm : n + m ≤ 200000)
    (h : ∀ g' c' w', w'.ownsRow B 48 2 (.slice (some ⟨g', 0, none⟩) (n + m) c') (n + m) (pcells (xs ++ news)) → w.grownBy w' (some g) → wpList Try.prog ops Q rest (a.put o.dst (.slice (some ⟨g', 0, none⟩) (n + m) c')) w') : wpList Try.prog ops Q (o :: rest) a w := by
  obtain ⟨i0, hi, hz0, hz1, hz2⟩ := info_parts2 infoPair
  refine wpList_plain hgd fun K hK => ?_
  cases xa with
  | none =>
    have hm : m = 0 := by
      rcases hp.2.2 with h0 | ⟨g, off, e, _⟩
      · exact h0
      · cases e
    subst hm
    have hn : news = [] := List.eq_nil_of_length_eq_zero hp.1
    subst hn
    have hc0 : xc = 0 := hxc rfl
    subst hc0
    have hnc : n ≤ c := by
      rcases hown.2 with ⟨h1, _⟩ | ⟨g', cap, cur, h1, _, _, h2, _⟩
      · cases h1
      · cases h1; exact h2
    unfold Oper.wp execOp
    simp only [ho, resolve, invoke, builtin, Sem.run_bind, Sem.run_pure, Result.andThen_ok, List.map_toArray, List.map_cons, List.map_nil, hs, hx, run_append_nil w _ _ _ i0 Try.underlying26 hi g n c hnc]
    exact hK _ _ (h g c w (by simpa using hown) (grown_refl _ _))
  | some ad =>
    obtain ⟨v', w', hr, h2, h3, hnil, h5⟩ := run_append_own_at (P := Try.prog) w B 26 o.type 48 i0 (.agg #[.string ⟨#[]⟩, .string ⟨#[]⟩]) 2 32 Try.underlying26 hi hz0 hz1 hz2 rfl (by decide) _ n _ hown ad m xc (pcells news) (by rw [pcells_length, hp.1])
      (by
        rcases hp.2.2 with h0 | ⟨g2, off, e, _⟩
        · have hn : news = [] := List.eq_nil_of_length_eq_zero (by rw [hp.1, h0])
          subst hn
          intro j u hu
          simp [pcells] at hu
        · cases e
          exact pairs_cells hp) (pcells_one news) (by unfold maxLen; omega) (by omega) hB
    rw [← pcells_append] at h2
    unfold Oper.wp execOp
    simp only [ho, resolve, invoke, builtin, Sem.run_bind, Sem.run_pure, Result.andThen_ok, List.map_toArray, List.map_cons, List.map_nil, hs, hx, hr]
    rcases prow_slice h2 with ⟨h1, _⟩ | ⟨g', cap, h1⟩
    · have := (hnil.1 h1).1
      cases this
    · subst h1
      exact hK _ _ (h g' cap w' h2 h3)

/-- A row of pairs that came in. -/
theorem prow_in {w : World} {B cap : Nat} {a : Option Addr} {ps : PS} (h : PRow w B (.slice a ps.length cap) ps) (hs : ∀ p ∈ ps, p.1.size ≤ 1000 ∧ p.2.size ≤ 1000) :
    IsPairs w a ps.length ps ∧ ps.length ≤ cap ∧ cap ≤ 9223372036854775807 ∧ ((a = none ∧ cap = 0 ∧ ps = []) ∨ ∃ g, a = some ⟨g, 0, none⟩) := by
  obtain ⟨a', c', e, h1, h2, h3⟩ := prow_is h hs
  cases e
  refine ⟨h1, h2, h3, ?_⟩
  rcases prow_slice h with ⟨e1, e2⟩ | ⟨g, c, e1⟩
  · simp only [Value.slice.injEq] at e1
    exact .inl ⟨e1.1, e1.2.2, List.eq_nil_of_length_eq_zero e2⟩
  · simp only [Value.slice.injEq] at e1
    exact .inr ⟨g, e1.1⟩

theorem own_set {w : World} {B n k off : Nat} {e : TypeId} {v u : Value} {xs : List Value} {size : Nat} (h : w.ownsRow B e size v n xs) (hk : k < B) : (w.setCell ⟨k, off, none⟩ u).ownsRow B e size v n xs := by
  have hg : w.grownBy (w.setCell ⟨k, off, none⟩ u) (some k) := ⟨rfl, rfl, rfl, (KeepsWalks.setCell w _ u).size, fun j _ hk => Below.heap_setCell _ _ _ j (fun e => hk (by rw [e]))⟩
  refine h.kept hg ?_
  cases e : v.ownBlock with
  | none => exact .inl rfl
  | some g => refine .inr (fun e2 => ?_); cases e2; have := (h.lt _ e).1; omega

theorem results_cell {fn : Func} {p : Tmp} {ty : TypeId} (h : fn.results = #[.cell p ty]) (tmps : Array Value) (P : Program) (w : World) :
    (results fn tmps).run P w = ((asAddr (tmps.getD p undef)).run P w).andThen fun a w₁ => (loadVar ty a).run P w₁ := by
  simp only [results, h]
  simp [Sem.run_bind, Result.andThen]

/-- The cells of two values side by side: one that came in, one that goes out. -/
theorem refbox2 (w : World) (x p : Value) : ∀ w', Below ((w.alloc (.cells #[x] 28)).alloc (.cells #[p] 28)).heap.size ((w.alloc (.cells #[x] 28)).alloc (.cells #[p] 28)) w' →
    w'.cell? ⟨w.heap.size, 0, none⟩ = some x ∧ w'.cell? ⟨w.heap.size + 1, 0, none⟩ = some p ∧ (∀ j, w'.frozen? ⟨w.heap.size, j, none⟩ = false) ∧ (∀ j, w'.frozen? ⟨w.heap.size + 1, j, none⟩ = false) := by
  intro w' hb
  have e := (hb.block w.heap.size (by simp; omega)).trans (key1 _ _ _ _ (World.alloc_heap_new w (.cells #[x] 28)))
  have e2 := World.alloc_heap_new (w.alloc (.cells #[x] 28)) (.cells #[p] 28)
  rw [World.size_alloc] at e2
  have e3 := (hb.block (w.heap.size + 1) (by simp)).trans e2
  refine ⟨?_, ?_, fun j => ?_, fun j => ?_⟩ <;> simp [World.cell?, World.frozen?, e, e3]

/-- What comes out of an operation of the reference model: the row that came in, or a new one. -/
def RefOut (w w' : World) (a : Option Addr) (cap : Nat) (ps qs : PS) (a' : Option Addr) (c' : Nat) : Prop :=
  PRow w' 0 (.slice a' qs.length c') qs ∧ ((a' = a ∧ c' = cap ∧ qs = ps) ∨ PRow w' w.heap.size (.slice a' qs.length c') qs)

theorem refout_same {w w' : World} {a : Option Addr} {cap : Nat} {ps : PS} {B : Nat} (h : PRow w B (.slice a ps.length cap) ps) (hb : Below w.heap.size w w') : RefOut w w' a cap ps ps a cap :=
  ⟨ownsRow_base (prow_below hb h) (Nat.zero_le _), .inl ⟨rfl, rfl, rfl⟩⟩

theorem refout_new {w w' : World} {a : Option Addr} {cap : Nat} {ps qs : PS} {a' : Option Addr} {c' : Nat} (h : PRow w' w.heap.size (.slice a' qs.length c') qs) : RefOut w w' a cap ps qs a' c' :=
  ⟨ownsRow_base h (Nat.zero_le _), .inr h⟩

theorem ispairs_new (w : World) (s v : ByteArray) (h1 : s.size ≤ 1000) (h2 : v.size ≤ 1000) : IsPairs (w.alloc (.cells #[.string s, .string v] 48)) (some ⟨w.heap.size, 0, none⟩) 1 [(s, v)] := by
  refine ⟨rfl, by simpa using ⟨h1, h2⟩, .inr ⟨w.heap.size, 0, rfl, by simp, fun j p hp => ?_⟩⟩
  match j, hp with
  | 0, hp => simp at hp; subst hp; exact ⟨two_new w (.string s) (.string v) _ 0 _ rfl, two_new w (.string s) (.string v) _ 1 _ rfl⟩

theorem ispairs_ite {w : World} {g : Nat} {len cap : Nat} {ps : PS} (h : IsPairs w (some ⟨g, 0, none⟩) len ps) (hc : len ≤ cap) {n : Nat} (hn : n ≤ len) : IsPairs w (if cap = n then some ⟨g, 0, none⟩ else some ⟨g, n * 2, none⟩) (len - n) (ps.drop n) := by
  by_cases q : cap = n
  · rw [if_pos q]
    obtain rfl : len = n := by omega
    refine ⟨by simp [h.1], fun p hp => h.2.1 p (List.mem_of_mem_drop hp), .inl (by omega)⟩
  · rw [if_neg q]
    exact ispairs_drop0 h hn

end Go.Proofs.Ytegccicplcjcmaa

