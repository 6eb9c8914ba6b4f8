/- Walk of RealmEnds. -/
import Derived.Test.YtkfjoonhgpgaiaaRealm8
import Derived.Laws.IdiomStrings
import Derived.RegionTactic
namespace Go.Proofs.Ytkfjoonhgpgaiaa
open Go Go.RowKit Go.Shelf Go.Proofs Go.Sort
attribute [local go_sem] Oper.semAt_some
attribute [local go_sem ↓] Go.wp_at_zero Go.wp_at_succ

/-- A row of bytes in block b. -/
def Row (W : World) (b : Nat) (l : List Int) : Prop := ∀ j (h : j < l.length), W.cell? ⟨b, j, none⟩ = some (.int .u8 l[j]) ∧ W.frozen? ⟨b, j, none⟩ = false

/-- The bytes of a text, as numbers. -/
def nums (s : ByteArray) : List Int := (by_ s).map (fun b => ((b.toNat : Nat) : Int))
theorem nums_length (s : ByteArray) : (nums s).length = s.size := by unfold nums; rw [List.length_map, size_by]

theorem row_new (s : ByteArray) (w : World) (cap : Nat) : Row (w.drew.alloc (.cells (bytesRow s cap) 5 ((bytesRow s cap).size, (bytesRow s cap).size + 1))) w.heap.size (nums s) := by
  intro j h
  have h' : j < s.data.size := by rw [nums_length] at h; exact h
  have hn := World.alloc_heap_new w.drew (.cells (bytesRow s cap) 5 ((bytesRow s cap).size, (bytesRow s cap).size + 1))
  have hsz : s.data.size ≤ (bytesRow s cap).size := by simp [bytesRow]
  constructor
  · unfold World.cell?
    rw [show w.heap.size = w.drew.heap.size from rfl, hn]
    simp only
    rw [bytesRow_at s cap j h']
    simp [nums, by_]
  · unfold World.frozen?
    rw [show w.heap.size = w.drew.heap.size from rfl, hn]
    simp
    omega

theorem foldl_push_size (l : List Int) : ∀ r : ByteArray, (l.foldl (fun r n => r.push (UInt8.ofNat n.toNat)) r).size = r.size + l.length := by
  induction l with
  | nil => intro r; rfl
  | cons a l ih => intro r; rw [List.foldl_cons, ih, ByteArray.size_push, List.length_cons]; omega

theorem row_conv (l : List Int) : ∃ q : ByteArray, q.size = l.length ∧ ∀ (W : World) (b cap : Nat), Row W b l → (convert 44 9 (.slice (some ⟨b, 0, none⟩) l.length cap)).run Try.prog W = .ok (.string q) W := by
  refine ⟨l.foldl (fun r n => r.push (UInt8.ofNat n.toNat)) ByteArray.empty, by rw [foldl_push_size]; simp, fun W b cap h => ?_⟩
  rw [run_convert_bytes_string W 44 9 5 _ _ _ Try.underlying44 Try.underlying5 Try.underlying9]
  have hc := run_loadCells_list (P := Try.prog) (w := W) ⟨b, 0, none⟩ (l.map (Value.int .u8)) (fun j u hj => by
    rw [Addr.add_lit, Nat.zero_add]
    have hjl : j < l.length := by
      rcases Nat.lt_or_ge j (l.map (Value.int .u8)).length with h | h
      · rw [List.length_map] at h; exact h
      · rw [List.getElem?_eq_none h] at hj; cases hj
    rw [(h j hjl).1, ← hj]
    simp [hjl])
  rw [List.length_map] at hc
  rw [run_bytesToString _ _ l.length cap _ hc]

theorem row_below {W W' : World} {b : Nat} {l : List Int} (h : Row W b l) {n : Nat} (hb : Below n W W') (hn : b < n) : Row W' b l := fun j hj => by
  obtain ⟨h1, h2⟩ := h j hj
  exact ⟨(hb.cell (p := ⟨b, j, none⟩) hn).trans h1, (frozen_below hb (p := ⟨b, j, none⟩) hn).trans h2⟩

theorem row_set {W : World} {b : Nat} {l : List Int} (h : Row W b l) (k : Nat) (hk : k < l.length) (v : Int) : Row (W.setCell ⟨b, k, none⟩ (.int .u8 v)) b (l.set k v) := fun j hj => by
  rw [List.length_set] at hj
  obtain ⟨h1, h2⟩ := h j hj
  refine ⟨?_, by rw [World.frozen?_setCell]; exact h2⟩
  by_cases e : j = k
  · subst e
    rw [World.cell?_setCell_same' _ _ _ (by rw [h1]; rfl)]
    simp
  · rw [World.cell?_setCell_other _ _ _ _ (by intro e2; cases e2; exact e rfl), h1]
    simp [Ne.symm e]

theorem shl_small (j k : Nat) : ∃ z : Int, (0 ≤ z ∧ z ≤ 255) ∧ Op.shift .shl .u8 1 .i64 ((j : Int) + (k : Int)) = pure (.int .u8 z) := by
  refine ⟨IntKind.u8.wrap (1 * 2 ^ (min ((j : Int) + (k : Int)).toNat 8)), ?_, ?_⟩
  · unfold IntKind.wrap
    simp [IntKind.bits, IntKind.signed]
    omega
  · unfold Op.shift
    rw [if_neg (by omega)]
    rfl

theorem nums_bound (s : ByteArray) (j : Nat) (h : j < (nums s).length) : 0 ≤ (nums s)[j] ∧ (nums s)[j] ≤ 255 := by
  simp [nums]
  have := UInt8.toNat_lt ((by_ s)[j]'(by rw [nums_length] at h; rw [size_by]; exact h))
  omega

theorem joinV_small (n : Int) (s : ByteArray) : ∃ p e, joinV n s = .tuple #[.string p, .int .i64 e] ∧ p.size ≤ 42 := by
  unfold joinV
  split
  · split
    · rename_i h; exact ⟨_, _, rfl, size_path _ _ h⟩
    · exact ⟨_, _, rfl, by decide⟩
  · exact ⟨_, _, rfl, by decide⟩

set_option maxRecDepth 100000 in
set_option maxHeartbeats 8000000 in
theorem law_RealmEnds (w : World) :
    Calls Try.prog 12 #[] w fun e w' => e = .returned (.bool true) ∧ Below w.heap.size w w' := by
  go_enter Try.func12, Try.ntmps12
  go_wp2_with fail
  generalize hW1 : World.alloc (World.alloc w _) _ = W1
  have hB1 : Below w.heap.size w W1 := by rw [← hW1]; exact ((Below.refl _ w).alloc (Nat.le_refl _) _).alloc (by simp) _
  have hs1 : w.heap.size + 1 < W1.heap.size := by rw [← hW1]; simp
  have HE : Hid (∀ i, i < 10 → ∃ n, W1.cell? ⟨w.heap.size, i, none⟩ = some (.int .i64 n)) := Lib.hid (fun i hi => by
    rw [← hW1, (((Below.refl (w.alloc _).heap.size (w.alloc _)).alloc (Nat.le_refl _) _).cell (p := ⟨w.heap.size, i, none⟩) (by simp))]
    unfold World.cell?
    rw [World.alloc_heap_new]
    rcases i with _ | _ | _ | _ | _ | _ | _ | _ | _ | _ | i
    all_goals first | exact ⟨_, rfl⟩ | omega)
  have HK : Hid (∀ i, i < 6 → ∃ s : ByteArray, W1.cell? ⟨w.heap.size + 1, i, none⟩ = some (.string s) ∧ s.size ≤ 17) := Lib.hid (fun i hi => by
    rw [← hW1]
    have := World.alloc_heap_new (w.alloc (.cells #[Value.int IntKind.i64 (-9223372036854775808), Value.int IntKind.i64 (-1), Value.int IntKind.i64 0, Value.int IntKind.i64 1, Value.int IntKind.i64 2, Value.int IntKind.i64 15, Value.int IntKind.i64 16, Value.int IntKind.i64 17, Value.int IntKind.i64 256, Value.int IntKind.i64 9223372036854775807] 3))
    unfold World.cell?
    rw [World.size_alloc] at this
    rw [this]
    rcases i with _ | _ | _ | _ | _ | _ | i
    all_goals first | exact ⟨_, rfl, by decide⟩ | omega)
  clear hW1
  go_loopw [3] (fun i wr => ∃ k : Nat, k ≤ 10 ∧ i = .int .i64 k ∧ Below W1.heap.size W1 wr) (fun i _ => 10 - (intOf i).toNat)
  case atStart => exact ⟨0, by omega, rfl, Below.refl _ _⟩
  case round =>
    obtain ⟨i, hi, rfl, hB⟩ := hrel
    by_cases hi2 : i < 10
    · obtain ⟨n, hn⟩ := HE.out i hi2
      have HN : Hid (∀ w', Below W1.heap.size W1 w' → w'.cell? ⟨w.heap.size, i, none⟩ = some (.int .i64 n)) := Lib.hid (fun w' hb => (hb.cell (p := ⟨w.heap.size, i, none⟩) (by show w.heap.size < _; omega)).trans hn)
      have hd10 : decide ((i : Int) < 10) = true := decide_eq_true (by omega)
      replace hi2 := Lib.hid hi2
      clear hn
      go_wp2_with fail
      go_loopw [4] (fun x wr => ∃ k : Nat, k ≤ 6 ∧ x = .int .i64 k ∧ Below W1.heap.size W1 wr) (fun x _ => 6 - (intOf x).toNat)
      case atStart => exact ⟨0, by omega, rfl, hB⟩
      case round =>
        clear hB
        obtain ⟨k, hk, rfl, hB⟩ := hrel
        by_cases hk2 : k < 6
        · obtain ⟨s, hs, hss⟩ := HK.out k hk2
          have HS : Hid (∀ w', Below W1.heap.size W1 w' → w'.cell? ⟨w.heap.size + 1, k, none⟩ = some (.string s)) := Lib.hid (fun w' hb => (hb.cell (p := ⟨w.heap.size + 1, k, none⟩) hs1).trans hs)
          have hd6 : decide ((k : Int) < 6) = true := decide_eq_true (by omega)
          obtain ⟨p, e, hJ, hp⟩ := joinV_small n s
          have HJ := Lib.hid hJ
          have hi3 : (i : Int) ≤ 10 := by omega
          have hi4 := hi2.out
          have hcn := HN.out wr hB
          have hcs := HS.out wr hB
          have q1 := fun d os => cell_regrown hcn d os
          have q2 := fun d os => cell_regrown hcs d os
          clear hs hJ
          go_wp2_with fail
          refine wp_region_quiet_below (by kernel_rfl) (by kernel_rfl) ?_
          repeat (go_big_quiet_step (exact Calls.regrown_of ((ref6join_any _ _ _).mono (fun e w' h => ⟨by rw [h.1, HJ.out], h.2⟩))))
          refine wpQuiet_nil ?_
          intro _ hw'
          obtain ⟨⟨dq, osq⟩, hw''⟩ := hw'
          subst hw''
          have hB2 := hB.trans ((below_regrown wr dq osq).mono hB.size)
          generalize «Sort».grow (redrawn wr dq) osq = wr2 at hB2 ⊢
          clear q1 q2 hcn hcs
          have hcn := HN.out wr2 hB2
          have hcs := HS.out wr2 hB2
          have q1 := fun d os => cell_regrown hcn d os
          have q2 := fun d os => cell_regrown hcs d os
          have hx : (⟨#[120]⟩ : ByteArray).size = 1 := rfl
          have hpx : (p ++ ⟨#[120]⟩).size ≤ 43 := by rw [ByteArray.size_append]; omega
          go_wp2_with fail
          refine wp_region_quiet_below (by kernel_rfl) (by kernel_rfl) ?_
          repeat (go_big_quiet_step (exact Calls.regrown_of (tells06 _ _ _ _ (by omega) (by omega))))
          refine wpQuiet_nil ?_
          intro _ hw'
          obtain ⟨⟨dq2, osq2⟩, hw''⟩ := hw'
          subst hw''
          have hB3 := hB2.trans ((below_regrown wr2 dq2 osq2).mono hB2.size)
          generalize «Sort».grow (redrawn wr2 dq2) osq2 = wr3 at hB3 ⊢
          clear q1 q2 hcn hcs hB2 hB hpx hx hi4
          replace hk2 := Lib.hid hk2
          go_wp2_with fail
          go_loopw [7] (fun x wr => ∃ j : Nat, j ≤ p.size ∧ x = .int .i64 j ∧ Below W1.heap.size W1 wr) (fun x _ => p.size - (intOf x).toNat)
          case atStart => exact ⟨0, by omega, rfl, hB3⟩
          case round =>
            clear hB3
            obtain ⟨j, hj, rfl, hB⟩ := hrel
            by_cases hj2 : j < p.size
            · have hbs := fun W => run_bytes_of_string (P := Try.prog) W 9 44 5 p Try.underlying9 Try.underlying44 Try.underlying5
              go_wp2_with fail
              have hrow : Row (wr.alloc (Obj.cells (bytesRow p (grownCap wr p.size 0 5)) 5 ((bytesRow p (grownCap wr p.size 0 5)).size, (bytesRow p (grownCap wr p.size 0 5)).size + 1))).drew wr.heap.size (nums p) := row_new p wr _
              have hB2 : Below W1.heap.size W1 (wr.alloc (Obj.cells (bytesRow p (grownCap wr p.size 0 5)) 5 ((bytesRow p (grownCap wr p.size 0 5)).size, (bytesRow p (grownCap wr p.size 0 5)).size + 1))).drew := (hB.alloc hB.size _).drew
              generalize (wr.alloc (Obj.cells (bytesRow p (grownCap wr p.size 0 5)) 5 ((bytesRow p (grownCap wr p.size 0 5)).size, (bytesRow p (grownCap wr p.size 0 5)).size + 1))).drew = Wb at hrow hB2 ⊢
              generalize grownCap wr p.size 0 5 = cp
              have hbl := hB.size
              generalize wr.heap.size = b at hrow hbl ⊢
              obtain ⟨cj, fj⟩ := hrow j (by rw [nums_length]; exact hj2)
              clear hbs
              have hk6 := hk2.out
              obtain ⟨z, hz, hsh⟩ := shl_small j k
              have hxb := nums_bound p j (by rw [nums_length]; exact hj2)
              obtain ⟨x, hx⟩ : ∃ x, (nums p)[j]'(by rw [nums_length]; exact hj2) = x := ⟨_, rfl⟩
              rw [hx] at cj hxb
              have HROW := Lib.hid hrow
              clear hrow hx
              go_region
              obtain ⟨q, hq, hcv⟩ := row_conv ((nums p).set j (bits BinOp.xor IntKind.u8 x (z % 8)))
              rw [List.length_set, nums_length] at hq hcv
              have hrow2 := row_set HROW.out j (by rw [nums_length]; exact hj2) (bits BinOp.xor IntKind.u8 x (z % 8))
              have hbb := block_lt_of_cell cj
              have hB3 : Below W1.heap.size W1 (Wb.setCell ⟨b, j, none⟩ (.int .u8 (bits BinOp.xor IntKind.u8 x (z % 8)))).drew := (hB2.setCell (p := ⟨b, j, none⟩) hbl _).drew
              have hrow3 : Row (Wb.setCell ⟨b, j, none⟩ (.int .u8 (bits BinOp.xor IntKind.u8 x (z % 8)))).drew b ((nums p).set j (bits BinOp.xor IntKind.u8 x (z % 8))) := hrow2
              have hbb2 : b < (Wb.setCell ⟨b, j, none⟩ (.int .u8 (bits BinOp.xor IntKind.u8 x (z % 8)))).drew.heap.size := by
                show b < (Wb.setCell ⟨b, j, none⟩ (.int .u8 (bits BinOp.xor IntKind.u8 x (z % 8)))).heap.size
                rw [World.size_setCell]; exact hbb
              generalize (Wb.setCell ⟨b, j, none⟩ (.int .u8 (bits BinOp.xor IntKind.u8 x (z % 8)))).drew = Wc at hB3 hrow3 hbb2 ⊢
              clear hrow2 hbb cj fj hsh hxb hz
              have hcv2 := fun d os => hcv (grow (redrawn Wc d) os) b cp (row_below hrow3 (below_regrown Wc d os) hbb2)
              clear hcv hrow3 HROW hB2
              have hcn := HN.out Wc hB3
              have hcs := HS.out Wc hB3
              have q1 := fun d os => cell_regrown hcn d os
              have q2 := fun d os => cell_regrown hcs d os
              have hi4 := hi2.out
              have hjp : (j : Int) ≤ (p.size : Int) := by omega
              have hex : (p.extract 0 j).size ≤ 42 := by rw [ByteArray.size_extract]; omega
              generalize (nums p).set j (bits BinOp.xor IntKind.u8 x (z % 8)) = rowl at hcv2
              go_wp2_with fail
              refine wp_region_quiet_below (by kernel_rfl) (by kernel_rfl) ?_
              repeat (go_big_quiet_step (exact Calls.regrown_of (tells06 _ _ _ _ (by omega) (by omega))))
              refine wpQuiet_nil ?_
              intro _ hw'
              obtain ⟨⟨dq3, osq3⟩, hw''⟩ := hw'
              subst hw''
              have hB4 := hB3.trans ((below_regrown Wc dq3 osq3).mono hB3.size)
              generalize «Sort».grow (redrawn Wc dq3) osq3 = wr5 at hB4 ⊢
              clear q1 q2 hcn hcs hB3 hcv2 hi4 hk6
              go_wp2_with fail
              go_roundw
              case rel => exact ⟨j + 1, by omega, by go_num, hB4⟩
              case measure => simp [intOf]; omega
            · obtain rfl : j = p.size := by omega
              go_wp2_with fail
              go_roundw
              case rel => exact ⟨k + 1, by have := hk2.out; omega, by go_num, hB⟩
              case measure => have := hk2.out; simp [intOf]; omega
        · obtain rfl : k = 6 := by omega
          go_wp2_with fail
          go_roundw
          case rel => exact ⟨i + 1, by have := hi2.out; omega, by go_num, hB⟩
          case measure => have := hi2.out; simp [intOf]; omega
    · have hd10 : decide ((i : Int) < 10) = false := decide_eq_false (by omega)
      have hBw := hB1.trans (hB.mono hB1.size)
      go_wp2_with (go_at_call 33; refine (awake06 _).mono ?_; rintro e w' ⟨rfl, hn⟩)
      go_ret
      exact ⟨rfl, hBw.trans (hn.mono hBw.size)⟩
end Go.Proofs.Ytkfjoonhgpgaiaa
