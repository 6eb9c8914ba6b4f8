/- append of pairs as a step of a list of operations; rows of pairs under stores elsewhere; the reference model's without. -/
import Derived.Test.YtgfhaldfjnepmaaBkR3
import Derived.Test.YtgfhaldfjnepmaaBkApp
namespace Go.Proofs.Ytgfhaldfjnepmaa
open Go Go.RowKit Go.Shelf Go.Proofs
attribute [local go_sem] Oper.semAt_some

theorem pairs_cells {w : World} {g off n : Nat} {ps : PS} (h : IsPairs w (some ⟨g, off, none⟩) n ps) : ∀ jj u, (pcells ps)[jj]? = some u → w.cell? ((⟨g, off, none⟩ : Addr).add jj) = some u := by
  intro jj u hu
  have hj : jj < ps.length * 2 := by have := (List.getElem?_eq_some_iff.1 hu).1; rwa [pcells_length] at this
  have hn := h.1
  obtain ⟨g', off', e, hg, hc⟩ := h.2.2.resolve_left (by omega)
  cases e
  obtain ⟨p, hp⟩ : ∃ p, ps[jj / 2]? = some p := ⟨_, List.getElem?_eq_getElem (by omega)⟩
  obtain ⟨c1, c2⟩ := hc (jj / 2) p hp
  obtain ⟨e1, e2⟩ := pcells_get ps (jj / 2) p hp
  rw [Addr.add_lit]
  rcases Nat.mod_two_eq_zero_or_one jj with hm | hm
  · have hjj : jj / 2 * 2 = jj := by omega
    rw [hjj] at e1 c1
    rw [e1] at hu; cases hu
    exact c1
  · have hjj : jj / 2 * 2 + 1 = jj := by omega
    rw [hjj] at e2
    rw [Nat.add_assoc, hjj] at c2
    rw [e2] at hu; cases hu
    exact c2

theorem ispairs_take {w : World} {a : Option Addr} {len : Nat} {ps : PS} (h : IsPairs w a len ps) {n : Nat} (hn : n ≤ len) : IsPairs w a n (ps.take n) := by
  obtain ⟨h1, h2, h3⟩ := h
  refine ⟨by simp; omega, fun p hp => h2 p (List.mem_of_mem_take hp), ?_⟩
  rcases h3 with h3 | ⟨g, off, rfl, hg, hc⟩
  · exact .inl (by omega)
  · refine .inr ⟨g, off, rfl, hg, fun j p hp => hc j p ?_⟩
    have hj : j < n := by have := (List.getElem?_eq_some_iff.1 hp).1; simp at this; omega
    rwa [List.getElem?_take_of_lt hj] at hp

theorem ispairs_drop {w : World} {g off : Nat} {len : Nat} {ps : PS} (h : IsPairs w (some ⟨g, off, none⟩) len ps) {n : Nat} (hn : n ≤ len) : IsPairs w (some ⟨g, off + n * 2, none⟩) (len - n) (ps.drop n) := by
  obtain ⟨h1, h2, h3⟩ := h
  refine ⟨by simp; omega, fun p hp => h2 p (List.mem_of_mem_drop hp), ?_⟩
  rcases h3 with h3 | ⟨g', off', e, hg, hc⟩
  · exact .inl (by omega)
  · cases e
    refine .inr ⟨g, _, rfl, hg, fun j p hp => ?_⟩
    rw [List.getElem?_drop] at hp
    have := hc (n + j) p hp
    rw [show off + n * 2 + j * 2 = off + (n + j) * 2 from by omega]
    exact this

theorem ispairs_drop0 {w : World} {g : Nat} {len : Nat} {ps : PS} (h : IsPairs w (some ⟨g, 0, none⟩) len ps) {n : Nat} (hn : n ≤ len) : IsPairs w (some ⟨g, n * 2, none⟩) (len - n) (ps.drop n) := by
  have := ispairs_drop h hn
  rwa [Nat.zero_add] at this

theorem ispairs_nil (w : World) (a : Option Addr) {ps : PS} (h : ps = []) : IsPairs w a 0 ps := by subst h; exact ⟨rfl, by simp, .inl rfl⟩

theorem pown_zero (w : World) (B : Nat) (hB : B ≤ w.heap.size) : (w.alloc (.cells #[] 57)).ownsRow B 57 2 (.slice (some ⟨w.heap.size, 0, none⟩) 0 0) 0 (pcells []) :=
  ⟨rfl, .inr ⟨w.heap.size, 0, #[], rfl, hB, World.alloc_heap_new _ _, Nat.le_refl _, Nat.zero_le _, rfl, rfl⟩⟩

/-- append of a slice of pairs onto an own row. -/
theorem wpList_appP {ops : Array Oper} {rest : List Oper} {o : Oper} {a : Act} {Q : Exit → Act → World → Prop} (w : World) (hgd : o.guard = none) (s x : Operand)
    (ho : o.op = .call { callee := .builtin .append, args := #[s, x], argTypes := #[47, 47] }) (B g n c : Nat) (xs : PS) (hs : a.eval s = .slice (some ⟨g, 0, none⟩) n c)
    (hown : w.ownsRow B 57 2 (.slice (some ⟨g, 0, none⟩) n c) n (pcells xs)) (xa : Option Addr) (m xc : Nat) (news : PS) (hx : a.eval x = .slice xa m xc) (hxc : xa = none → xc = 0)
    (hp : IsPairs w xa m news) (hB : B ≤ w.heap.size) (hnm : n + m ≤ 200000)
    (h : ∀ g' c' w', w'.ownsRow B 57 2 (.slice (some ⟨g', 0, none⟩) (n + m) c') (n + m) (pcells (xs ++ news)) → w.grownBy w' (some g) → wpList Try.prog ops Q rest (a.put o.dst (.slice (some ⟨g', 0, none⟩) (n + m) c')) w') : wpList Try.prog ops Q (o :: rest) a w := by
  obtain ⟨i0, hi, hz0, hz1, hz2⟩ := info_parts2 infoPair
  refine wpList_plain hgd fun K hK => ?_
  cases xa with
  | none =>
    have hm : m = 0 := by
      rcases hp.2.2 with h0 | ⟨g, off, e, _⟩
      · exact h0
      · cases e
    subst hm
    have hn : news = [] := List.eq_nil_of_length_eq_zero hp.1
    subst hn
    have hc0 : xc = 0 := hxc rfl
    subst hc0
    have hnc : n ≤ c := by
      rcases hown.2 with ⟨h1, _⟩ | ⟨g', cap, cur, h1, _, _, h2, _⟩
      · cases h1
      · cases h1; exact h2
    unfold Oper.wp execOp
    simp only [ho, resolve, invoke, builtin, Sem.run_bind, Sem.run_pure, Result.andThen_ok, List.map_toArray, List.map_cons, List.map_nil, hs, hx, run_append_nil w _ _ _ i0 Try.underlying47 hi g n c hnc]
    exact hK _ _ (h g c w (by simpa using hown) (grown_refl _ _))
  | some ad =>
    obtain ⟨v', w', hr, h2, h3, hnil, h5⟩ := run_append_own_at (P := Try.prog) w B 47 o.type 57 i0 (.agg #[.string ⟨#[]⟩, .string ⟨#[]⟩]) 2 32 Try.underlying47 hi hz0 hz1 hz2 rfl (by decide) _ n _ hown ad m xc (pcells news) (by rw [pcells_length, hp.1])
      (by
        rcases hp.2.2 with h0 | ⟨g2, off, e, _⟩
        · have hn : news = [] := List.eq_nil_of_length_eq_zero (by rw [hp.1, h0])
          subst hn
          intro j u hu
          simp [pcells] at hu
        · cases e
          exact pairs_cells hp) (pcells_one news) (by unfold maxLen; omega) (by omega) hB
    rw [← pcells_append] at h2
    unfold Oper.wp execOp
    simp only [ho, resolve, invoke, builtin, Sem.run_bind, Sem.run_pure, Result.andThen_ok, List.map_toArray, List.map_cons, List.map_nil, hs, hx, hr]
    rcases prow_slice h2 with ⟨h1, _⟩ | ⟨g', cap, h1⟩
    · have := (hnil.1 h1).1
      cases this
    · subst h1
      exact hK _ _ (h g' cap w' h2 h3)

/-- A row of pairs that came in. -/
theorem prow_in {w : World} {B cap : Nat} {a : Option Addr} {ps : PS} (h : PRow w B (.slice a ps.length cap) ps) (hs : ∀ p ∈ ps, p.1.size ≤ 1000 ∧ p.2.size ≤ 1000) :
    IsPairs w a ps.length ps ∧ ps.length ≤ cap ∧ cap ≤ 9223372036854775807 ∧ ((a = none ∧ cap = 0 ∧ ps = []) ∨ ∃ g, a = some ⟨g, 0, none⟩) := by
  obtain ⟨a', c', e, h1, h2, h3⟩ := prow_is h hs
  cases e
  refine ⟨h1, h2, h3, ?_⟩
  rcases prow_slice h with ⟨e1, e2⟩ | ⟨g, c, e1⟩
  · simp only [Value.slice.injEq] at e1
    exact .inl ⟨e1.1, e1.2.2, List.eq_nil_of_length_eq_zero e2⟩
  · simp only [Value.slice.injEq] at e1
    exact .inr ⟨g, e1.1⟩

theorem own_set {w : World} {B n k off : Nat} {e : TypeId} {v u : Value} {xs : List Value} {size : Nat} (h : w.ownsRow B e size v n xs) (hk : k < B) : (w.setCell ⟨k, off, none⟩ u).ownsRow B e size v n xs := by
  have hg : w.grownBy (w.setCell ⟨k, off, none⟩ u) (some k) := ⟨rfl, rfl, rfl, (KeepsWalks.setCell w _ u).size, fun j _ hk => Below.heap_setCell _ _ _ j (fun e => hk (by rw [e]))⟩
  refine h.kept hg ?_
  cases e : v.ownBlock with
  | none => exact .inl rfl
  | some g => refine .inr (fun e2 => ?_); cases e2; have := (h.lt _ e).1; omega

theorem results_cell {fn : Func} {p : Tmp} {ty : TypeId} (h : fn.results = #[.cell p ty]) (tmps : Array Value) (P : Program) (w : World) :
    (results fn tmps).run P w = ((asAddr (tmps.getD p undef)).run P w).andThen fun a w₁ => (loadVar ty a).run P w₁ := by
  simp only [results, h]
  simp [Sem.run_bind, Result.andThen]

/-- The cells of two values side by side: one that came in, one that goes out. -/
theorem refbox2 (w : World) (x y z p q r : Value) : ∀ w', Below ((w.alloc (.cells #[x, y, z] 62)).alloc (.cells #[p, q, r] 62)).heap.size ((w.alloc (.cells #[x, y, z] 62)).alloc (.cells #[p, q, r] 62)) w' →
    (w'.cell? ⟨w.heap.size, 0, none⟩ = some x ∧ w'.cell? ⟨w.heap.size, 1, none⟩ = some y ∧ w'.cell? ⟨w.heap.size, 2, none⟩ = some z) ∧ w'.cell? ⟨w.heap.size + 1, 0, none⟩ = some p ∧ w'.cell? ⟨w.heap.size + 1, 1, none⟩ = some q ∧ w'.cell? ⟨w.heap.size + 1, 2, none⟩ = some r ∧ (∀ j, w'.frozen? ⟨w.heap.size, j, none⟩ = false) ∧ (∀ j, w'.frozen? ⟨w.heap.size + 1, j, none⟩ = false) := by
  intro w' hb
  have e := (hb.block w.heap.size (by simp; omega)).trans (key1 _ _ _ _ (World.alloc_heap_new w (.cells #[x, y, z] 62)))
  have e2 := World.alloc_heap_new (w.alloc (.cells #[x, y, z] 62)) (.cells #[p, q, r] 62)
  rw [World.size_alloc] at e2
  have e3 := (hb.block (w.heap.size + 1) (by simp)).trans e2
  refine ⟨⟨?_, ?_, ?_⟩, ?_, ?_, ?_, fun j => ?_, fun j => ?_⟩ <;> simp [World.cell?, World.frozen?, e, e3]

set_option maxRecDepth 100000 in
set_option maxHeartbeats 4000000 in
theorem refwithout_any {B : Nat} (a : Option Addr) (cap K M : Nat) (ps : PS) (w : World) (h : PRow w B (.slice a ps.length cap) ps) (hl : ps.length < 90000) (hs : SortedP ps) (hsm : ∀ p ∈ ps, p.1.size ≤ 1000 ∧ p.2.size ≤ 1000) (s : ByteArray) :
    Calls Try.prog 87 #[.agg #[.slice a ps.length cap, .int .u64 K, .int .u64 M], .string s] w fun e w' => ∃ g' c', e = .returned (.agg #[.slice (some ⟨g', 0, none⟩) (delP ps s).length c', .int .u64 K, .int .u64 M]) ∧ PRow w' w.heap.size (.slice (some ⟨g', 0, none⟩) (delP ps s).length c') (delP ps s) ∧ Below w.heap.size w w' := by
  obtain ⟨hp, hc1, hc2, hsh⟩ := prow_in h hsm
  obtain ⟨w1, hw1⟩ : ∃ w1, w1 = (w.alloc (.cells #[.slice a ps.length cap, .int .u64 K, .int .u64 M] 62)).alloc (.cells #[.slice none 0 0, .int .u64 0, .int .u64 0] 62) := ⟨_, rfl⟩
  have hB1 : Below w.heap.size w w1 := by rw [hw1]; exact ((Below.refl _ _).alloc (Nat.le_refl _) _).alloc (by simp) _
  have hs1 : w1.heap.size = w.heap.size + 1 + 1 := by rw [hw1]; simp
  have HC : Hid (∀ w', Below w1.heap.size w1 w' → (w'.cell? ⟨w.heap.size, 0, none⟩ = some (.slice a ps.length cap) ∧ w'.cell? ⟨w.heap.size, 1, none⟩ = some (.int .u64 K) ∧ w'.cell? ⟨w.heap.size, 2, none⟩ = some (.int .u64 M)) ∧ w'.cell? ⟨w.heap.size + 1, 0, none⟩ = some (.slice none 0 0) ∧ w'.cell? ⟨w.heap.size + 1, 1, none⟩ = some (.int .u64 0) ∧ w'.cell? ⟨w.heap.size + 1, 2, none⟩ = some (.int .u64 0) ∧ (∀ j, w'.frozen? ⟨w.heap.size, j, none⟩ = false) ∧ (∀ j, w'.frozen? ⟨w.heap.size + 1, j, none⟩ = false)) := Lib.hid (by rw [hw1]; exact refbox2 w _ _ _ _ _ _)
  have HA := Lib.hid (refat_any a ps.length cap K M ps w1 (hp.below hB1) (by omega) hs s)
  have HH := Lib.hid (fun W (hb : Below w1.heap.size w1 W) => refhas_any a ps.length cap K M ps W ((hp.below hB1).below hb) (by omega) hs s)
  have HP := Lib.hid (hp.below hB1)
  have hpl := posP_le ps s
  have HD := Lib.hid (del_ref hs s)
  rw [hw1] at HA
  have hN2 : (getP ps s).isSome = true → posP ps s < ps.length := fun e => by
    obtain ⟨v, hv⟩ := Option.isSome_iff_exists.1 e
    exact (get_at hs hv).2
  clear h hp
  generalize posP ps s = N at *
  generalize delP ps s = D at HD ⊢
  rcases hsh with ⟨rfl, rfl, rfl⟩ | ⟨g, rfl⟩
  · have hN0 : N = 0 := by simpa using hpl
    subst hN0
    cases hg : (getP [] s).isSome with
    | true => have := hN2 hg; simp at this
    | false =>
      rw [hg] at HH HD
      simp only [Bool.false_eq_true, if_false, List.take_nil, List.drop_nil, List.append_nil] at HD
      have hDl : (0 : Nat) + 0 = D.length := by rw [← HD.out]; rfl
      have HI1 := Lib.hid (fun W (hb : Below w1.heap.size w1 W) => ispairs_nil W none (ps := []) rfl)
      have hown : ∀ (W : World) (g k : Nat), W.ownsRow w1.heap.size 57 2 (.slice (some ⟨g, 0, none⟩) 0 k) 0 (pcells []) → W.ownsRow w1.heap.size 57 2 (.slice (some ⟨g, 0, none⟩) D.length k) D.length (pcells D) := fun _ _ _ h => by rw [← HD.out]; exact h
      have HOWN := Lib.hid hown
      have HDl := Lib.hid hDl
      clear hown hDl
      go_enter Try.func87, Try.ntmps87
      go_wp2_with (first
        | (go_at_call 70; refine HA.out.mono ?_; rintro e w3 ⟨rfl, hn3⟩; rw [← hw1] at hn3; obtain ⟨⟨c0, c1, c2⟩, _⟩ := HC.out _ hn3; have hb3' := hn3.alloc hn3.size (.cells #[] 57); obtain ⟨⟨l0, l1, l2⟩, _⟩ := HC.out _ hb3')
        | (go_at_call 88; refine (HH.out _ hb4).mono ?_; rintro e w5 ⟨rfl, hn5⟩; have hb5 := hb4.trans (hn5.mono hb4.size); obtain ⟨⟨c0, c1, c2⟩, r0, r1, r2, f0, f1⟩ := HC.out _ hb5; have hown5 := ownsRow_below hown4 hn5 (Nat.le_refl _))
        | (at_builtin; refine wpList_appP _ rfl _ _ rfl w1.heap.size w3.heap.size 0 0 [] rfl (pown_zero w3 _ hn3.size) _ _ _ [] rfl (by simp) (HI1.out _ hb3') (by simp; have := hn3.size; omega) (by omega) ?_; clear HI1; intro g4 k4 w4 hown4 hgrow4; have hb4 : Below w1.heap.size w1 w4 := hb3'.grown hgrow4 (by simp; have := hn3.size; omega) (fun k e => by cases e; exact hn3.size); obtain ⟨⟨c0, c1, c2⟩, _⟩ := HC.out _ hb4))
      have hown6 := HOWN.out _ _ _ hown5
      refine bodyPost_ret (v := .agg #[.slice (some ⟨g4, 0, none⟩) D.length k4, .int .u64 K, .int .u64 M]) ?_ rfl ⟨g4, k4, rfl, ?_, ?_⟩
      · rw [← HDl.out, results_cell rfl]
        go_simp
      · exact ownsRow_base (own_set (own_set (own_set (own_set hown6 (by omega)) (by omega)) (by omega)) (by omega)) (by omega)
      · exact hB1.trans ((((((hb5.mono (B' := w.heap.size) (by omega)).setCell (p := ⟨w.heap.size, 0, none⟩) (Nat.le_refl _) _).setCell (p := ⟨w.heap.size + 1, 0, none⟩) (Nat.le_succ _) _).setCell (p := ⟨w.heap.size + 1, 1, none⟩) (Nat.le_succ _) _).setCell (p := ⟨w.heap.size + 1, 2, none⟩) (Nat.le_succ _) _))
  · generalize hlen : ps.length = len at *
    cases hg : (getP ps s).isSome with
    | false =>
      rw [hg] at HH HD
      simp only [Bool.false_eq_true, if_false] at HD
      clear hN2 hg
      have HI1 := Lib.hid (fun W (hb : Below w1.heap.size w1 W) => ispairs_take (HP.out.below hb) hpl)
      by_cases hcp : cap = N
      · obtain rfl : len = cap := by omega
        subst hcp
        have hdr : ps.drop len = [] := List.drop_of_length_le (by omega)
        rw [hdr] at HD
        have HDl : Hid (len + 0 = D.length) := Lib.hid (by rw [← HD.out, List.append_nil, List.length_take]; omega)
        have HI2 := Lib.hid (fun W (_ : Below w1.heap.size w1 W) => ispairs_nil W (some ⟨g, 0, none⟩) (ps := []) rfl)
        have i1 : ((len : Nat) : Int) ≤ (len : Int) := by omega
        clear hdr hlen
        go_enter Try.func87, Try.ntmps87
        go_wp2_with (first
          | (go_at_call 70; refine HA.out.mono ?_; rintro e w3 ⟨rfl, hn3⟩; rw [← hw1] at hn3; obtain ⟨⟨c0, c1, c2⟩, _⟩ := HC.out _ hn3; have hb3' := hn3.alloc hn3.size (.cells #[] 57); obtain ⟨⟨l0, l1, l2⟩, _⟩ := HC.out _ hb3')
          | (go_at_call 88; refine (HH.out _ hb4).mono ?_; rintro e w5 ⟨rfl, hn5⟩; have hb5 := hb4.trans (hn5.mono hb4.size); obtain ⟨⟨c0, c1, c2⟩, _⟩ := HC.out _ hb5; have hown5 := ownsRow_below hown4 hn5 (Nat.le_refl _))
          | (at_builtin; refine wpList_appP _ rfl _ _ rfl w1.heap.size w3.heap.size 0 0 [] rfl (pown_zero w3 _ hn3.size) _ _ _ (ps.take len) rfl (by simp) (HI1.out _ hb3') (by simp; have := hn3.size; omega) (by omega) ?_; clear HI1; intro g4 k4 w4 hown4 hgrow4; have hb4 : Below w1.heap.size w1 w4 := hb3'.grown hgrow4 (by simp; have := hn3.size; omega) (fun k e => by cases e; exact hn3.size); rw [Nat.zero_add, List.nil_append] at hown4; obtain ⟨⟨c0, c1, c2⟩, _⟩ := HC.out _ hb4)
          | (at_builtin; refine wpList_appP _ rfl _ _ rfl w1.heap.size g4 len k4 (ps.take len) rfl hown5 _ _ _ [] rfl (by simp) (HI2.out _ hb5) hb5.size (by omega) ?_; intro g6 k6 w6 hown6 hgrow6; have hb6 := hb5.grown hgrow6 hb5.size (fun k e => by cases e; exact (hown5.lt _ rfl).1); obtain ⟨⟨c0, c1, c2⟩, r0, r1, r2, f0, f1⟩ := HC.out _ hb6))
        rw [HD.out, HDl.out] at hown6
        refine bodyPost_ret (v := .agg #[.slice (some ⟨g6, 0, none⟩) D.length k6, .int .u64 K, .int .u64 M]) ?_ rfl ⟨g6, k6, rfl, ?_, ?_⟩
        · rw [← HDl.out, results_cell rfl]
          go_simp
        · exact ownsRow_base (own_set (own_set (own_set (own_set hown6 (by omega)) (by omega)) (by omega)) (by omega)) (by omega)
        · exact hB1.trans ((((((hb6.mono (B' := w.heap.size) (by omega)).setCell (p := ⟨w.heap.size, 0, none⟩) (Nat.le_refl _) _).setCell (p := ⟨w.heap.size + 1, 0, none⟩) (Nat.le_succ _) _).setCell (p := ⟨w.heap.size + 1, 1, none⟩) (Nat.le_succ _) _).setCell (p := ⟨w.heap.size + 1, 2, none⟩) (Nat.le_succ _) _))
      · have HI2 := Lib.hid (fun W (hb : Below w1.heap.size w1 W) => ispairs_drop0 (HP.out.below hb) hpl)
        have i1 : (N : Int) ≤ (cap : Int) := by omega
        have HDl : Hid (N + (len - N) = D.length) := Lib.hid (by rw [← HD.out]; simp; omega)
        go_enter Try.func87, Try.ntmps87
        go_wp2_with (first
          | (go_at_call 70; refine HA.out.mono ?_; rintro e w3 ⟨rfl, hn3⟩; rw [← hw1] at hn3; obtain ⟨⟨c0, c1, c2⟩, _⟩ := HC.out _ hn3; have hb3' := hn3.alloc hn3.size (.cells #[] 57); obtain ⟨⟨l0, l1, l2⟩, _⟩ := HC.out _ hb3')
          | (go_at_call 88; refine (HH.out _ hb4).mono ?_; rintro e w5 ⟨rfl, hn5⟩; have hb5 := hb4.trans (hn5.mono hb4.size); obtain ⟨⟨c0, c1, c2⟩, _⟩ := HC.out _ hb5; have hown5 := ownsRow_below hown4 hn5 (Nat.le_refl _))
          | (at_builtin; refine wpList_appP _ rfl _ _ rfl w1.heap.size w3.heap.size 0 0 [] rfl (pown_zero w3 _ hn3.size) _ _ _ (ps.take N) rfl (by simp) (HI1.out _ hb3') (by simp; have := hn3.size; omega) (by omega) ?_; clear HI1; intro g4 k4 w4 hown4 hgrow4; have hb4 : Below w1.heap.size w1 w4 := hb3'.grown hgrow4 (by simp; have := hn3.size; omega) (fun k e => by cases e; exact hn3.size); rw [Nat.zero_add, List.nil_append] at hown4; obtain ⟨⟨c0, c1, c2⟩, _⟩ := HC.out _ hb4)
          | (at_builtin; refine wpList_appP _ rfl _ _ rfl w1.heap.size g4 N k4 (ps.take N) rfl hown5 _ _ _ (ps.drop N) rfl (by simp) (HI2.out _ hb5) hb5.size (by omega) ?_; intro g6 k6 w6 hown6 hgrow6; have hb6 := hb5.grown hgrow6 hb5.size (fun k e => by cases e; exact (hown5.lt _ rfl).1); obtain ⟨⟨c0, c1, c2⟩, r0, r1, r2, f0, f1⟩ := HC.out _ hb6))
        rw [HD.out, HDl.out] at hown6
        refine bodyPost_ret (v := .agg #[.slice (some ⟨g6, 0, none⟩) D.length k6, .int .u64 K, .int .u64 M]) ?_ rfl ⟨g6, k6, rfl, ?_, ?_⟩
        · rw [← HDl.out, results_cell rfl]
          go_simp
        · exact ownsRow_base (own_set (own_set (own_set (own_set hown6 (by omega)) (by omega)) (by omega)) (by omega)) (by omega)
        · exact hB1.trans ((((((hb6.mono (B' := w.heap.size) (by omega)).setCell (p := ⟨w.heap.size, 0, none⟩) (Nat.le_refl _) _).setCell (p := ⟨w.heap.size + 1, 0, none⟩) (Nat.le_succ _) _).setCell (p := ⟨w.heap.size + 1, 1, none⟩) (Nat.le_succ _) _).setCell (p := ⟨w.heap.size + 1, 2, none⟩) (Nat.le_succ _) _))
    | true =>
      rw [hg] at HH HD
      have hNl := hN2 hg
      simp only [if_true] at HD
      clear hN2 hg
      have HI1 := Lib.hid (fun W (hb : Below w1.heap.size w1 W) => ispairs_take (HP.out.below hb) hpl)
      have i1 : (N : Int) ≤ (cap : Int) := by omega
      have i2 : (N : Int) + 1 ≤ (len : Int) := by omega
      by_cases hcp : cap = N + 1
      · obtain rfl : len = N + 1 := by omega
        subst hcp
        have hdr : ps.drop (N + 1) = [] := List.drop_of_length_le (by omega)
        rw [hdr] at HD
        have HDl : Hid (N + 0 = D.length) := Lib.hid (by rw [← HD.out, List.append_nil, List.length_take]; omega)
        have HI2 := Lib.hid (fun W (_ : Below w1.heap.size w1 W) => ispairs_nil W (some ⟨g, 0, none⟩) (ps := []) rfl)
        clear hdr hlen
        go_enter Try.func87, Try.ntmps87
        go_wp2_with (first
          | (go_at_call 70; refine HA.out.mono ?_; rintro e w3 ⟨rfl, hn3⟩; rw [← hw1] at hn3; obtain ⟨⟨c0, c1, c2⟩, _⟩ := HC.out _ hn3; have hb3' := hn3.alloc hn3.size (.cells #[] 57); obtain ⟨⟨l0, l1, l2⟩, _⟩ := HC.out _ hb3')
          | (go_at_call 88; refine (HH.out _ hb4).mono ?_; rintro e w5 ⟨rfl, hn5⟩; have hb5 := hb4.trans (hn5.mono hb4.size); obtain ⟨⟨c0, c1, c2⟩, _⟩ := HC.out _ hb5; have hown5 := ownsRow_below hown4 hn5 (Nat.le_refl _))
          | (at_builtin; refine wpList_appP _ rfl _ _ rfl w1.heap.size w3.heap.size 0 0 [] rfl (pown_zero w3 _ hn3.size) _ _ _ (ps.take N) rfl (by simp) (HI1.out _ hb3') (by simp; have := hn3.size; omega) (by omega) ?_; clear HI1; intro g4 k4 w4 hown4 hgrow4; have hb4 : Below w1.heap.size w1 w4 := hb3'.grown hgrow4 (by simp; have := hn3.size; omega) (fun k e => by cases e; exact hn3.size); rw [Nat.zero_add, List.nil_append] at hown4; obtain ⟨⟨c0, c1, c2⟩, _⟩ := HC.out _ hb4)
          | (at_builtin; refine wpList_appP _ rfl _ _ rfl w1.heap.size g4 N k4 (ps.take N) rfl hown5 _ _ _ [] rfl (by simp) (HI2.out _ hb5) hb5.size (by omega) ?_; intro g6 k6 w6 hown6 hgrow6; have hb6 := hb5.grown hgrow6 hb5.size (fun k e => by cases e; exact (hown5.lt _ rfl).1); obtain ⟨⟨c0, c1, c2⟩, r0, r1, r2, f0, f1⟩ := HC.out _ hb6))
        rw [HD.out, HDl.out] at hown6
        refine bodyPost_ret (v := .agg #[.slice (some ⟨g6, 0, none⟩) D.length k6, .int .u64 K, .int .u64 M]) ?_ rfl ⟨g6, k6, rfl, ?_, ?_⟩
        · rw [← HDl.out, results_cell rfl]
          go_simp
        · exact ownsRow_base (own_set (own_set (own_set (own_set hown6 (by omega)) (by omega)) (by omega)) (by omega)) (by omega)
        · exact hB1.trans ((((((hb6.mono (B' := w.heap.size) (by omega)).setCell (p := ⟨w.heap.size, 0, none⟩) (Nat.le_refl _) _).setCell (p := ⟨w.heap.size + 1, 0, none⟩) (Nat.le_succ _) _).setCell (p := ⟨w.heap.size + 1, 1, none⟩) (Nat.le_succ _) _).setCell (p := ⟨w.heap.size + 1, 2, none⟩) (Nat.le_succ _) _))
      · have HI2 := Lib.hid (fun W (hb : Below w1.heap.size w1 W) => ispairs_drop0 (HP.out.below hb) (show N + 1 ≤ len by omega))
        have HDl : Hid (N + (len - (N + 1)) = D.length) := Lib.hid (by rw [← HD.out]; simp; omega)
        go_enter Try.func87, Try.ntmps87
        go_wp2_with (first
          | (go_at_call 70; refine HA.out.mono ?_; rintro e w3 ⟨rfl, hn3⟩; rw [← hw1] at hn3; obtain ⟨⟨c0, c1, c2⟩, _⟩ := HC.out _ hn3; have hb3' := hn3.alloc hn3.size (.cells #[] 57); obtain ⟨⟨l0, l1, l2⟩, _⟩ := HC.out _ hb3')
          | (go_at_call 88; refine (HH.out _ hb4).mono ?_; rintro e w5 ⟨rfl, hn5⟩; have hb5 := hb4.trans (hn5.mono hb4.size); obtain ⟨⟨c0, c1, c2⟩, _⟩ := HC.out _ hb5; have hown5 := ownsRow_below hown4 hn5 (Nat.le_refl _))
          | (at_builtin; refine wpList_appP _ rfl _ _ rfl w1.heap.size w3.heap.size 0 0 [] rfl (pown_zero w3 _ hn3.size) _ _ _ (ps.take N) rfl (by simp) (HI1.out _ hb3') (by simp; have := hn3.size; omega) (by omega) ?_; clear HI1; intro g4 k4 w4 hown4 hgrow4; have hb4 : Below w1.heap.size w1 w4 := hb3'.grown hgrow4 (by simp; have := hn3.size; omega) (fun k e => by cases e; exact hn3.size); rw [Nat.zero_add, List.nil_append] at hown4; obtain ⟨⟨c0, c1, c2⟩, _⟩ := HC.out _ hb4)
          | (at_builtin; refine wpList_appP _ rfl _ _ rfl w1.heap.size g4 N k4 (ps.take N) rfl hown5 _ _ _ (ps.drop (N + 1)) rfl (by simp) (HI2.out _ hb5) hb5.size (by omega) ?_; intro g6 k6 w6 hown6 hgrow6; have hb6 := hb5.grown hgrow6 hb5.size (fun k e => by cases e; exact (hown5.lt _ rfl).1); obtain ⟨⟨c0, c1, c2⟩, r0, r1, r2, f0, f1⟩ := HC.out _ hb6))
        rw [HD.out, HDl.out] at hown6
        refine bodyPost_ret (v := .agg #[.slice (some ⟨g6, 0, none⟩) D.length k6, .int .u64 K, .int .u64 M]) ?_ rfl ⟨g6, k6, rfl, ?_, ?_⟩
        · rw [← HDl.out, results_cell rfl]
          go_simp
        · exact ownsRow_base (own_set (own_set (own_set (own_set hown6 (by omega)) (by omega)) (by omega)) (by omega)) (by omega)
        · exact hB1.trans ((((((hb6.mono (B' := w.heap.size) (by omega)).setCell (p := ⟨w.heap.size, 0, none⟩) (Nat.le_refl _) _).setCell (p := ⟨w.heap.size + 1, 0, none⟩) (Nat.le_succ _) _).setCell (p := ⟨w.heap.size + 1, 1, none⟩) (Nat.le_succ _) _).setCell (p := ⟨w.heap.size + 1, 2, none⟩) (Nat.le_succ _) _))

end Go.Proofs.Ytgfhaldfjnepmaa
