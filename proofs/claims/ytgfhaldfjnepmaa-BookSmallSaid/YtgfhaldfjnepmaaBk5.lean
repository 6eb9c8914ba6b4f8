/- The library's functions on the keys' slice: searching, inserting, deleting, cloning; the map's clone. -/
import Derived.Test.YtgfhaldfjnepmaaBk4
import Derived.Test.YtgfhaldfjnepmaaBookShelf
namespace Go.Proofs.Ytgfhaldfjnepmaa
open Go Go.RowKit Go.Shelf Go.Proofs

theorem strs_one (xs : List ByteArray) : ∀ u ∈ xs.map Value.string, u.oneCell' = true := by
  intro u hu
  obtain ⟨_, _, rfl⟩ := List.mem_map.1 hu
  rfl

theorem kcell_get {w : World} {B n g cap : Nat} {xs : List ByteArray} (h : Row w B (.slice (some ⟨g, 0, none⟩) n cap) n xs) : ∀ j v, (xs.map Value.string)[j]? = some v → w.cell? ⟨g, 0 + j, none⟩ = some v := by
  intro j v hv
  have hj : j < xs.length := by have := (List.getElem?_eq_some_iff.1 hv).1; simpa using this
  have hl := h.len
  rw [row_cells h j (by omega)]
  rw [List.getElem?_map, List.getElem?_eq_getElem hj] at hv
  simp only [Option.map_some, Option.some.injEq] at hv
  rw [← hv]
  simp [List.getD, List.getElem?_eq_getElem hj]

theorem row_grow {X : World} {B g n cap i : Nat} {A : Array Value} {xs : List ByteArray} {s : ByteArray} (hX : X.heap[g]? = some (.cells A 9 (0, 0))) (hA : A.size = cap) (hb : B ≤ g) (hl : xs.length = n) (hi : i ≤ n) (hc : n + 1 ≤ cap) (hm : cap ≤ maxLen)
    (hpre : ∀ j, j < i → A[j]? = (xs[j]?).map Value.string) :
    Row (((X.setCells g i [.string s]).drew).setCells g (i + 1) ((xs.map Value.string).drop i)) B (.slice (some ⟨g, 0, none⟩) (n + 1) cap) (n + 1) (insertL xs i s) := by
  obtain ⟨c1, a1, a2, a3⟩ := setCells_block [.string s] i X A hX (by simp; omega)
  obtain ⟨c2, b1, b2, b3⟩ := setCells_block ((xs.map Value.string).drop i) (i + 1) ((X.setCells g i [.string s]).drew) c1 a1 (by simp [hl]; omega)
  refine row_mk hb b1 (by omega) hc hm (by rw [insertL_length xs i s (by omega)]; omega) (fun j hj => ?_)
  rw [b3 j, insertL_get xs i s (by omega), a3 j]
  simp only [List.length_cons, List.length_nil, List.length_drop, List.length_map, hl]
  by_cases hj1 : j < i
  · rw [if_neg (by omega), if_neg (by omega), if_pos hj1]
    exact hpre j hj1
  · by_cases hj2 : j = i
    · subst hj2
      rw [if_neg (by omega), if_pos (by omega), if_neg hj1, if_pos rfl]
      simp
    · rw [if_pos (by omega), if_neg hj1, if_neg hj2, List.getElem?_drop, List.getElem?_map, show i + (j - (i + 1)) = j - 1 from by omega]

/-- slices.Insert of one key. -/
theorem insert_any (B : Nat) (v : Value) (n i vb : Nat) (xs : List ByteArray) (s : ByteArray) (w : World) (hv : Row w B v n xs) (hB : B ≤ w.heap.size) (hi : i ≤ n) (hn : n < 100000) (hvb : w.heap[vb]? = some (.cells #[.string s] 9 (0, 0))) (hne : v.ownBlock ≠ some vb) :
    Calls Try.prog 110 #[v, .int .i64 i, .slice (some ⟨vb, 0, none⟩) 1 1] w fun e w' => ∃ v', e = .returned v' ∧ Row w' B v' (n + 1) (insertL xs i s) ∧ w.grownBy w' v.ownBlock ∧ (v'.ownBlock = v.ownBlock ∨ v'.ownBlock = some w.heap.size) := by
  have hl := hv.len
  have hvs : ∀ j u, ([.string s] : List Value)[j]? = some u → w.cell? ⟨vb, 0 + j, none⟩ = some u := by
    intro j u hu
    match j, hu with
    | 0, hu => simp at hu; subst hu; simp [World.cell?, hvb]
  have h1v : ∀ u ∈ ([.string s] : List Value), u.oneCell' = true := by intro u hu; simp at hu; subst hu; rfl
  have hz : ∀ k, (Builtin.zeroCells (Value.string ⟨#[]⟩).cells k).size = k := fun k => by simp [size_zeroCells, Value.cells]
  have hcap : ∀ c, grownCap w (n + 1) c 9 ≤ maxLen := fun c => grownCap_le_maxLen w (n + 1) c _ (by unfold maxLen; omega)
  have hge : ∀ c, n + 1 ≤ grownCap w (n + 1) c 9 := fun c => grownCap_ge w (n + 1) c _
  rcases row_get hv with ⟨rfl, rfl, rfl⟩ | ⟨g, cap, cur, rfl, hb, hh, hc1, hc2, hsz, hx⟩
  · obtain rfl : i = 0 := by omega
    refine (Any2.slices_Insert_string_end_grow bk_lays22 none 0 0 vb 0 1 1 [] [.string s] w (by omega) (by omega) (by omega) (by omega) rfl rfl (fun _ => rfl) (fun a ha => by cases ha) hvs h1v).mono ?_
    rintro e w' ⟨rfl, rfl⟩
    refine ⟨_, rfl, row_mk hB (World.alloc_heap_new _ _) ?_ (hge 0) (hcap 0) (by simp [insertL]) ?_, ?_, .inr rfl⟩
    · have := hge 0; have := hz (grownCap w (0 + 1) 0 9 - (0 + 1))
      simp at *; show _ + _ = _; simp [bk_lays22_ren]; omega
    · intro j hj
      obtain rfl : j = 0 := by omega
      show (#[Value.string s] ++ Builtin.zeroCells _ _)[0]? = _
      rw [Array.getElem?_append_left (by simp)]
      rfl
    · exact grown_trans (grown_drew w _) (World.grownBy_alloc _ _ _)
  · have hfz : ∀ j, w.frozen? ⟨g, j, none⟩ = false := fun j => by simp [World.frozen?, hh]
    have hsp : ∀ j, j < cap → (w.cell? ⟨g, 0 + j, none⟩).isSome = true := fun j hj => by
      rw [Nat.zero_add, cell_of_row w g j cur 9 (0, 0) hh, Array.getElem?_eq_getElem (by omega)]; rfl
    have hcs := kcell_get hv
    have hgv : vb ≠ g := fun e => hne (by rw [e]; rfl)
    by_cases hroom : n + 1 ≤ cap
    · by_cases hlt : i < n
      · refine (Any2.slices_Insert_string_shift bk_lays22 g 0 n cap i vb 0 1 1 (xs.map .string) [.string s] w hlt (by omega) hroom (by unfold maxLen at hc2; exact hc2) hgv (by simp [hl]) rfl hcs (fun j hj => hsp j (by omega)) (fun j _ => hfz _) hvs (strs_one xs) h1v 9 9 1 cap
          (by simp [World.shape?, hvb]) (by simp [World.shape?, hh, hsz]) (by omega) (by simp [World.frozen?, hvb]) (by simp [World.frozen?, hvb])).mono ?_
        rintro e w' ⟨rfl, rfl⟩
        simp only [Nat.zero_add]
        have hv2 : Row w.drew B (.slice (some ⟨g, 0, none⟩) n cap) n xs := hv
        exact ⟨_, rfl, row_insert hv2 hi hroom, grown_trans (grown_drew w _) (grown_trans (grown_setCells _ _ _ _) (grown_setCells _ _ _ _)), .inl rfl⟩
      · obtain rfl : i = n := by omega
        refine (Any2.slices_Insert_string_end_room bk_lays22 g 0 i cap vb 0 1 1 [.string s] w (by omega) hroom (by unfold maxLen at hc2; exact hc2) rfl (fun j hj => by rw [Nat.add_assoc]; exact hsp _ (by omega)) (fun j _ => hfz _) hvs h1v).mono ?_
        rintro e w' ⟨rfl, rfl⟩
        have := row_insert (s := s) hv hi hroom
        rw [List.drop_eq_nil_of_le (by simp [hl]), World.setCells] at this
        simp only [Nat.zero_add]
        exact ⟨_, rfl, this, grown_setCells _ _ _ _, .inl rfl⟩
    · by_cases hlt : i < n
      · refine (Any2.slices_Insert_string_grow bk_lays22 g 0 n cap i vb 0 1 1 (xs.map .string) [.string s] w hlt (by omega) hc1 (by omega) (by omega) (by simp [hl]) rfl hcs hvs (strs_one xs) h1v).mono ?_
        rintro e w' ⟨rfl, rfl⟩
        simp only [show bk_lays22_ren.t 9 = 9 from rfl]
        have hge' := hge cap
        refine ⟨_, rfl, row_grow (X := (w.alloc _).drew) (World.alloc_heap_new _ _) (by simp [hz, hl]; omega) hB hl hi hge' (hcap cap) (fun j hj => ?_), ?_, .inr rfl⟩
        · simp only [Array.getElem?_append, Array.size_append, List.size_toArray, List.length_take, List.length_map, hz, hl]
          rw [if_pos (by omega), if_pos (by omega)]
          simp [List.getElem?_take, hj]
        · refine ⟨?_, ?_, ?_, ?_, fun k hk _ => ?_⟩
          · rw [(setCells_rest _ _ _ _).1]; exact (setCells_rest _ _ _ _).1
          · rw [(setCells_rest _ _ _ _).2.1]; exact (setCells_rest _ _ _ _).2.1
          · rw [(setCells_rest _ _ _ _).2.2]; exact (setCells_rest _ _ _ _).2.2
          · rw [setCells_size]
            show w.heap.size ≤ (World.setCells _ _ _ _).heap.size
            rw [setCells_size]
            simp
          · rw [setCells_other _ _ _ _ _ (by omega)]
            show (World.setCells _ _ _ _).heap[k]? = _
            rw [setCells_other _ _ _ _ _ (by omega)]
            exact Below.heap_alloc _ _ _ hk
      · obtain rfl : i = n := by omega
        refine (Any2.slices_Insert_string_end_grow bk_lays22 (some ⟨g, 0, none⟩) i cap vb 0 1 1 (xs.map .string) [.string s] w (by omega) hc1 (by omega) (by omega) (by simp [hl]) rfl (by simp) (fun a ha j u hu => by cases ha; rw [Addr.add_lit]; exact hcs j u hu) hvs h1v).mono ?_
        rintro e w' ⟨rfl, rfl⟩
        simp only [show bk_lays22_ren.t 9 = 9 from rfl]
        have hge' := hge cap
        refine ⟨_, rfl, row_mk hB (World.alloc_heap_new _ _) ?_ hge' (hcap cap) (by rw [insertL_length xs i s (by omega)]; omega) ?_, ?_, .inr rfl⟩
        · simp [hz, hl]; omega
        · intro j hj
          rw [insertL_get xs i s (by omega)]
          simp only [Array.getElem?_append, List.size_toArray, List.length_append, List.length_map, List.length_cons, List.length_nil, hl]
          rw [if_pos (by omega)]
          simp only [List.getElem?_toArray, List.getElem?_append, List.length_map, hl, List.getElem?_map]
          by_cases hj1 : j < i
          · rw [if_pos hj1, if_pos hj1]
          · obtain rfl : j = i := by omega
            rw [if_neg hj1, if_neg hj1, if_pos rfl]; simp
        · exact grown_trans (grown_drew w _) (World.grownBy_alloc _ _ _)

/-- slices.Delete of one key. -/
theorem delete_any (B g n cap i : Nat) (xs : List ByteArray) (w : World) (hv : Row w B (.slice (some ⟨g, 0, none⟩) n cap) n xs) (hi : i < n) :
    Calls Try.prog 109 #[.slice (some ⟨g, 0, none⟩) n cap, .int .i64 i, .int .i64 ((i + 1 : Nat) : Int)] w fun e w' => e = .returned (.slice (some ⟨g, 0, none⟩) (n - 1) cap) ∧ Row w' B (.slice (some ⟨g, 0, none⟩) (n - 1) cap) (n - 1) (deleteL xs i) ∧ w.grownBy w' (some g) := by
  have hl := hv.len
  rcases row_get hv with ⟨h1, _⟩ | ⟨g', cap', cur, h1, hb, hh, hc1, hc2, hsz, hx⟩
  · cases h1
  · cases h1
    refine (Any.slices_Delete_string_cells bk_lays24 g 0 n cap i (i + 1) (fun j => xs.getD j ByteArray.empty) w hc1 (by unfold maxLen at hc2; exact hc2) (by omega) (by omega) (row_cells hv) (fun j _ => by simp [World.frozen?, hh])).mono ?_
    rintro e w' ⟨rfl, q, rfl⟩
    have hlen : Lib.strsOf (fun j => xs.getD j ByteArray.empty) n = xs.map by_ := by
      apply List.ext_getElem?
      intro j
      by_cases hj : j < n
      · simp [Lib.strsOf, hj, List.getElem?_eq_getElem (show j < xs.length by omega), List.getD, by_]
      · rw [List.getElem?_eq_none (by rw [Lib.strsOf_length]; omega), List.getElem?_eq_none (by simp; omega)]
    have hcells : ((Lib.strsOf (fun j => xs.getD j ByteArray.empty) n).take i ++ (Lib.strsOf (fun j => xs.getD j ByteArray.empty) n).drop (i + 1) ++ List.replicate (i + 1 - i) []).map encStr = (deleteL xs i).map Value.string ++ [encStr []] := by
      rw [hlen, Nat.add_sub_cancel_left]
      have he : ∀ (l : List ByteArray), (l.map by_).map encStr = l.map Value.string := fun l => by
        rw [List.map_map]; apply List.map_congr_left; intro x _; simp [encStr, by_]
      simp only [List.map_append, ← List.map_take, ← List.map_drop, he, deleteL]
      simp
    rw [hcells]
    have hv2 : Row (w.drewN q) B (.slice (some ⟨g, 0, none⟩) n cap) n xs := hv
    refine ⟨by rw [show n - (i + 1 - i) = n - 1 from by omega], row_delete hv2 hi _, grown_trans (grown_drewN w q _) (grown_setCells _ _ _ _)⟩

/-- slices.BinarySearch. -/
theorem search_any (B : Nat) (v : Value) (ps : PS) (s : ByteArray) (w : World) (hv : Row w B v ps.length (keysP ps)) (hs : SortedP ps) (hn : ps.length < 100000) :
    Calls Try.prog 86 #[v, .string s] w fun e w' => e = .returned (.tuple #[.int .i64 (posP ps s : Nat), .bool (getP ps s).isSome]) ∧ Below w.heap.size w w' := by
  have hl := hv.len
  rcases row_get hv with ⟨rfl, h0, hx⟩ | ⟨g, cap, cur, rfl, hb, hh, hc1, hc2, hsz, hx⟩
  · refine (Any2.slices_BinarySearch_string_empty bk_lays26 none 0 s w).mono ?_
    rintro e w' ⟨rfl, rfl⟩
    have hps : ps = [] := List.eq_nil_of_length_eq_zero h0
    subst hps
    exact ⟨rfl, Below.refl _ _⟩
  · have hb := fun a b : ByteArray => show Op.bytesLess a.toList b.toList = klt a b from by
      rw [bytesLess_eq, toList_by, toList_by]; rfl
    refine (Any2.slices_BinarySearch_string bk_lays26 g 0 ps.length cap (fun j => if j < ps.length then (keysP ps).getD j ByteArray.empty else s) s w (by omega) (fun j hj => by simp only [hj, if_true]; exact row_cells hv j hj)).mono ?_
    rintro e w' ⟨rfl, q, rfl⟩
    refine ⟨?_, ⟨rfl, rfl, rfl, Nat.le_refl _, fun _ _ => rfl⟩⟩
    have hgo : Lib.bsGo (fun t => Op.bytesLess ((fun j => if j < ps.length then (keysP ps).getD j ByteArray.empty else s) t).toList s.toList) ps.length 0 ps.length = posP ps s := by
      refine Lib.bsGo_spec _ (posP ps s) (fun t ht => ?_) (fun t ht => ?_) _ _ _ (by omega) (by omega) (posP_le ps s)
      · have hle := posP_le ps s
        have hk : (keysP ps)[t]? = some ((keysP ps).getD t ByteArray.empty) := by simp [List.getD, List.getElem?_eq_getElem (show t < (keysP ps).length by omega)]
        simp only [hb, show t < ps.length from by omega, if_true]
        exact klt_iff.2 ((key_less hs s hk).1 ht)
      · by_cases h : t < ps.length
        · have hk : (keysP ps)[t]? = some ((keysP ps).getD t ByteArray.empty) := by simp [List.getD, List.getElem?_eq_getElem (show t < (keysP ps).length by omega)]
          simp only [hb, h, if_true]
          exact klt_false.2 ((key_less hs s hk).2 ht)
        · simp only [hb, h, if_false]
          exact klt_false.2 (lex_irrefl _)
    rw [hgo]
    have hdec : decide (posP ps s < ps.length ∧ (fun j => if j < ps.length then (keysP ps).getD j ByteArray.empty else s) (posP ps s) = s) = (getP ps s).isSome := by
      cases hg : getP ps s with
      | none =>
        simp only [Option.isSome_none, decide_eq_false_iff_not]
        rintro ⟨h1, h2⟩
        simp only [h1, if_true] at h2
        obtain ⟨u, hu⟩ := (key_there hs s).2 (by
          rw [List.getElem?_eq_getElem (by omega)]
          simp only [List.getD, List.getElem?_eq_getElem (show posP ps s < (keysP ps).length by omega), Option.getD_some] at h2
          rw [h2])
        rw [hg] at hu; cases hu
      | some u =>
        simp only [Option.isSome_some, decide_eq_true_eq]
        have h3 := (key_there hs s).1 ⟨u, hg⟩
        have h4 : posP ps s < ps.length := by have := (List.getElem?_eq_some_iff.1 h3).1; omega
        refine ⟨h4, ?_⟩
        simp [h4, List.getD, h3]
    rw [hdec]

/-- slices.Clone of the keys. -/
theorem clone_any (B : Nat) (v : Value) (n : Nat) (xs : List ByteArray) (w : World) (hv : Row w B v n xs) (hn : n < 100000) :
    Calls Try.prog 73 #[v] w fun e w' => ∃ v', e = .returned v' ∧ Row w' w.heap.size v' n xs ∧ Below w.heap.size w w' := by
  have hl := hv.len
  rcases row_get hv with ⟨rfl, rfl, rfl⟩ | ⟨g, cap, cur, rfl, hb, hh, hc1, hc2, hsz, hx⟩
  · refine (Any.slices_Clone_string_nil bk_lays16 0 0 w).mono ?_
    rintro e w' ⟨rfl, rfl⟩
    exact ⟨_, rfl, World.ownsRow_nil _ _ _ _, Below.refl _ _⟩
  · by_cases h0 : n = 0
    · subst h0
      refine (Any.slices_Clone_string_zero bk_lays16 ⟨g, 0, none⟩ cap w).mono ?_
      rintro e w' ⟨v', rfl, h1, _, h2⟩
      obtain rfl : xs = [] := List.eq_nil_of_length_eq_zero hl
      exact ⟨v', rfl, h1, h2⟩
    · refine (Any.slices_Clone_string bk_lays16 g 0 n cap xs w (by omega) (by omega) (fun j hj => row_cells hv j (by omega))).mono ?_
      rintro e w' ⟨v', rfl, h1, _, h2⟩
      rw [List.take_of_length_le (by omega)] at h1
      exact ⟨v', rfl, h1, h2⟩

/-- maps.Clone. -/
theorem mclone_any (m n : Nat) (f : ByteArray → Option Value) (w : World) (hm : MapAt w m n f) :
    Calls Try.prog 74 #[.map (some m)] w fun e w' => e = .returned (.map (some w.heap.size)) ∧ MapAt w' w.heap.size n f ∧ Below w.heap.size w w' := by
  obtain ⟨es, clock, hh⟩ := hm.isMap
  refine (AnyW.maps_Clone bk_mclone m es clock w hh).mono ?_
  rintro e w' ⟨rfl, rfl⟩
  exact ⟨rfl, hm.copy hh (World.alloc_heap_new _ _), (Below.refl _ _).alloc (Nat.le_refl _) _⟩

end Go.Proofs.Ytgfhaldfjnepmaa
