/- Walks: counted, exceeds. -/
import Derived.Test.YtgfhaldfjnepmaaBk19
namespace Go.Proofs.Ytgfhaldfjnepmaa
open Go Go.RowKit Go.Shelf Go.Proofs
attribute [local go_sem] Oper.semAt_some

theorem totP_take {ps : PS} {k : Nat} {p : ByteArray × ByteArray} (h : ps[k]? = some p) : totP (ps.take (k + 1)) = totP (ps.take k) + (p.1.size + p.2.size) := by
  rw [List.take_add_one, h, totP_append]; simp [totP]

set_option maxRecDepth 100000 in
set_option maxHeartbeats 4000000 in
theorem counted_any {B b m : Nat} {v : Value} {K M : Nat} {ps : PS} (w : World) (h : BookAt w B b m v K M ps) (hlen : ps.length < 90000) (a : Option Addr) (cap : Nat) (hp : IsPairs w a ps.length ps) :
    Calls Try.prog 33 #[.pointer (some ⟨b, 0, none⟩), .slice a ps.length cap] w fun e w' => e = .returned (.bool true) ∧ Below w.heap.size w w' := by
  have HP := Lib.hid hp
  have HK := Lib.hid (fun w' (hb : Below w.heap.size w w') => keys_any w' (h.below hb) (by omega))
  have HY := Lib.hid (fun w' (hb : Below w.heap.size w w') => bytes_any w' (h.below hb))
  have hsm := h.small
  have hso := h.sorted
  have htl := totP_le h.small
  have hB0 := Below.refl w.heap.size w
  clear h hp
  go_enter Try.func33, Try.ntmps33
  go_wp2
  go_loopw [5, 6] (fun t i wr => ∃ k : Nat, k ≤ ps.length ∧ i = .int .i64 k ∧ t = .int .u64 (totP (ps.take k) : Nat) ∧ Below w.heap.size w wr) (fun _ i _ => ps.length - (intOf i).toNat)
  case atStart => exact ⟨0, Nat.zero_le _, rfl, rfl, hB0⟩
  case round =>
    obtain ⟨k, hk, rfl, rfl, hB⟩ := hrel
    clear hB0
    by_cases hk2 : k < ps.length
    · obtain ⟨p, hpk⟩ : ∃ p, ps[k]? = some p := ⟨_, List.getElem?_eq_getElem hk2⟩
      obtain ⟨g, off, rfl, hg, hc⟩ := (HP.out.below hB).2.2.resolve_left (by omega)
      obtain ⟨c1, c2⟩ := hc k p hpk
      have hp1 := (hsm p (List.mem_of_getElem? hpk))
      have hT := totP_take hpk
      have hTl := totP_le (ps := ps.take k) (fun q hq => hsm q (List.mem_of_mem_take hq))
      have hTk : (ps.take k).length ≤ k := by simp; omega
      obtain ⟨p1, p2⟩ := p
      simp only at c1 c2 hp1 hT
      have HSO : Hid (∀ j, k = j + 1 → ∃ r1 r2, wr.cell? ⟨g, off + j * 2, none⟩ = some (.string r1) ∧ by_ r1 < by_ p1) := Lib.hid (fun j hj => by
        obtain ⟨q, hq⟩ : ∃ q, ps[j]? = some q := ⟨_, List.getElem?_eq_getElem (by omega)⟩
        have hlt : by_ q.1 < by_ p1 := by
          have := (List.pairwise_iff_getElem.1 hso) j k (by omega) hk2 (by omega)
          rw [List.getElem?_eq_getElem (by omega)] at hq hpk
          simp only [Option.some.injEq] at hq hpk
          rw [hq, hpk] at this
          exact this
        exact ⟨q.1, q.2, (hc j q hq).1, hlt⟩)
      generalize totP (ps.take k) = T at *
      generalize hT2 : totP (ps.take (k + 1)) = T2 at *
      have hkeep := Lib.hid (fun (t : Int) (ht : t = (T2 : Nat)) => (show Value.int .u64 t = .int .u64 (totP (ps.take (k + 1)) : Nat) by rw [ht, hT2]))
      clear hT2
      clear hpk hsm hso htl hc
      have hcast : ((T2 : Nat) : Int) = (T : Int) + (p1.size : Int) + (p2.size : Int) := by omega
      by_cases hk0 : k = 0
      · have i0 : ¬ (0 : Int) < (k : Int) := by omega
        subst hk0
        simp only [Nat.zero_mul, Nat.add_zero] at c1 c2
        go_wp2
        go_quiet (fail)
        go_wp2
        go_quiet (fail)
        go_wp2
        go_roundw
        case rel => exact ⟨0 + 1, by omega, by go_num, hkeep.out _ (by rw [hcast]), (by first | exact below_drewN _ hB | exact below_drewN _ (below_drewN _ hB))⟩
        case measure => simp [intOf]; omega
      · obtain ⟨j, rfl⟩ : ∃ j, k = j + 1 := ⟨k - 1, by omega⟩
        obtain ⟨r1, r2, d1, hlt⟩ := HSO.out j rfl
        clear HSO
        have hle : Op.bytesLess p1.toList r1.toList = false := by
          rw [bytesLess_eq, toList_by, toList_by]
          exact decide_eq_false (lex_asymm hlt)
        have hne : (p1.toList == r1.toList) = false := by
          rw [strEq]
          exact decide_eq_false (fun e => by rw [e] at hlt; exact lex_irrefl _ hlt)
        clear hlt
        go_wp2
        go_quiet (fail)
        go_wp2
        go_quiet (fail)
        go_wp2
        go_roundw
        case rel => exact ⟨j + 1 + 1, by omega, by go_num, hkeep.out _ (by rw [hcast]), (by first | exact below_drewN _ hB | exact below_drewN _ (below_drewN _ hB))⟩
        case measure => simp [intOf]; omega
    · obtain rfl : k = ps.length := by omega
      rw [List.take_of_length_le (Nat.le_refl _)]
      clear hsm hso htl
      go_wp2_with (first
        | (go_at_call 34; refine (HK.out _ hB).mono ?_; rintro e w' ⟨rfl, rfl⟩)
        | (go_at_call 35; refine (HY.out _ hB).mono ?_; rintro e w' ⟨rfl, rfl⟩))
      go_ret
      exact ⟨rfl, hB⟩

end Go.Proofs.Ytgfhaldfjnepmaa
