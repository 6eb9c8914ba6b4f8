/- Walk: Scan. -/
import Derived.Test.YtgfhaldfjnepmaaBk16
import Derived.WalkLawsBesides
namespace Go.Proofs.Ytgfhaldfjnepmaa
open Go Go.RowKit Go.Shelf Go.Proofs
attribute [local go_sem] Oper.semAt_some

def scanE (s : ByteArray) (n : Int) : Int := if mayE s [] = 0 then (if n < 0 ∨ 4096 < n then 2 else 0) else 2
def scanL (ps : PS) (s : ByteArray) (n : Int) : PS := if scanE s n = 0 then (ps.drop (posP ps s)).take n.toNat else []

theorem prow_nil (w : World) (B : Nat) : PRow w B (.slice none 0 0) [] := World.ownsRow_nil _ _ _ _

set_option maxRecDepth 100000 in
set_option maxHeartbeats 4000000 in
theorem scan_any {B b m : Nat} {v : Value} {K M : Nat} {ps : PS} (w : World) (h : BookAt w B b m v K M ps) (hlen : ps.length < 90000) (s : ByteArray) (hs : s.size ≤ 1000) (n : Int) (hn1 : -9223372036854775808 ≤ n) (hn2 : n ≤ 9223372036854775807) :
    Calls Try.prog 37 #[.pointer (some ⟨b, 0, none⟩), .string s, .int .i64 n] w fun e w' => ∃ pv, e = .returned (.tuple #[pv, .int .i64 (scanE s n)]) ∧ PRow w' w.heap.size pv (scanL ps s n) ∧ Below w.heap.size w w' := by
  have HM := Lib.hid (may_any w h s none 0 0 [] hs (isstrs_nil w) (by omega))
  obtain ⟨i0, hi, hz0, hz1, hz2⟩ := info_parts2 infoPair
  unfold scanL scanE
  rcases mayE_or s [] with e0 | e2
  · rw [e0] at HM ⊢
    simp only [if_true]
    by_cases q1 : n < 0
    · rw [if_pos (Or.inl q1)]
      simp only [show ¬ ((2 : Int) = 0) from by decide, if_false]
      clear h
      go_enter Try.func37, Try.ntmps37
      go_wp2_with (go_at_call 62; refine HM.out.mono ?_; rintro e w' ⟨rfl, hn⟩)
      go_ret2
      exact ⟨_, rfl, prow_nil _ _, hn⟩
    · by_cases q2 : 4096 < n
      · rw [if_pos (Or.inr q2)]
        simp only [show ¬ ((2 : Int) = 0) from by decide, if_false]
        clear h
        go_enter Try.func37, Try.ntmps37
        go_wp2_with (go_at_call 62; refine HM.out.mono ?_; rintro e w' ⟨rfl, hn⟩)
        go_ret2
        exact ⟨_, rfl, prow_nil _ _, hn⟩
      · rw [if_neg (by omega)]
        simp only [if_true]
        obtain ⟨ka, kc, rfl⟩ := row_slice h.row
        have hkc : ps.length ≤ kc ∧ kc ≤ 9223372036854775807 := by
          rcases row_get h.row with ⟨h1, h2, _⟩ | ⟨g, cap, cur, h1, _, _, h2, h3, _⟩
          · rw [h2]; exact ⟨Nat.zero_le _, by simp only [Value.slice.injEq] at h1; omega⟩
          · cases h1; unfold maxLen at h3; exact ⟨h2, h3⟩
        have HF := Lib.hid (fun w' (hb : Below w.heap.size w w') => find_any w' (h.below hb) (by omega) s)
        have HC := Lib.hid (fun w' (hb : Below w.heap.size w w') => (h.below hb).cell)
        have HB := Lib.hid (fun w' (hb : Below w.heap.size w w') => h.below hb)
        have hpl := posP_le ps s
        obtain ⟨N, rfl⟩ : ∃ N : Nat, n = (N : Int) := Int.eq_ofNat_of_zero_le (by omega)
        have hN : N ≤ 4096 := by omega
        generalize hp : posP ps s = p at HF hpl ⊢
        have HR0 := h.row
        clear h hp
        have hwp : IntKind.i64.wrap ((p : Int) + (N : Int)) = (p : Int) + N := by
          have : IntKind.i64.wrap (((p + N : Nat) : Int)) = ((p + N : Nat) : Int) := by unfold IntKind.wrap; simp [IntKind.signed, IntKind.bits]; omega
          simpa using this
        have hmn : min ((p : Int) + (N : Int)) (ps.length : Int) = ((min (p + N) ps.length : Nat) : Int) := by omega
        have hq1 : p ≤ min (p + N) ps.length := by omega
        have hq2 : min (p + N) ps.length ≤ ps.length := by omega
        have hq3 : min (p + N) ps.length - p = ((ps.drop p).take N).length := by simp; omega
        generalize min (p + N) ps.length = q at hmn hq1 hq2 hq3
        have iq1 : (p : Int) ≤ (q : Int) := by omega
        have iq2 : (q : Int) ≤ (kc : Int) := by omega
        have iq3 : (0 : Int) ≤ (q : Int) := by omega
        have hka : (ka = none ∧ ps.length = 0) ∨ ∃ g, ka = some ⟨g, 0, none⟩ := by
          rcases row_get HR0 with ⟨h1, h2, _⟩ | ⟨g, cap, cur, h1, _⟩
          · exact .inl ⟨by simp only [Value.slice.injEq] at h1; exact h1.1, h2⟩
          · simp only [Value.slice.injEq] at h1; exact .inr ⟨g, h1.1⟩
        clear HR0
        rcases hka with ⟨rfl, hl0⟩ | ⟨g, rfl⟩
        all_goals
          go_enter Try.func37, Try.ntmps37
          go_wp2_with (first
            | (go_at_call 62; refine HM.out.mono ?_; rintro e w3 ⟨rfl, hb3⟩)
            | (go_at_call 63; refine (HF.out _ hb3).mono ?_; rintro e w4 ⟨rfl, hb4'⟩; have hb4 := below_chain hb3 hb4'; obtain ⟨c1, c2, _⟩ := HC.out _ hb4))
          go_region
          have hb5 : Below w.heap.size w w4.drew := hb4.drew
          clear c1 c2 hb4 hb4'
          generalize w4.drew = w5 at hb5 ⊢
          have hcnt : ((ps.drop p).take N).length = min N (ps.length - p) := by simp
          have hget : ∀ k, k < min N (ps.length - p) → ((ps.drop p).take N)[k]? = ps[p + k]? := fun k hk => by rw [List.getElem?_take_of_lt (by omega), List.getElem?_drop]
          obtain ⟨L, hPL⟩ : ∃ L, L = (ps.drop p).take N := ⟨_, rfl⟩
          rw [← hPL] at hcnt hget
          have HPL := Lib.hid hPL
          clear hPL hq3 hwp hmn
          go_wp2
          all_goals
            go_loopw [6, 12, 51] (fun o _ i wr => ∃ k : Nat, k ≤ min N (ps.length - p) ∧ i = .int .i64 k ∧ wr.ownsRow w.heap.size 57 2 o k (pcells (L.take k)) ∧ Below w.heap.size w wr) (fun _ _ i _ => min N (ps.length - p) - (intOf i).toNat)
            case atStart => exact ⟨0, Nat.zero_le _, rfl, World.ownsRow_nil _ _ _ _, hb5⟩
            case round =>
              obtain ⟨k, hk, rfl, hrow, hbr⟩ := hrel
              clear hb5
              by_cases hk3 : k < min N (ps.length - p) ∧ ¬ kc = p
              · obtain ⟨hk2, hkp⟩ := hk3
                try exact absurd h hkp
                try (exfalso; omega)
                all_goals
                    have hpk : p + k < ps.length := by omega
                    have hmem : (ps[p + k]) ∈ ps := List.getElem_mem hpk
                    have HB2 := HB.out wr hbr
                    have hck : wr.cell? ⟨g, 0 + (p + k), none⟩ = some (.string (ps[p + k]).1) := by
                      rw [row_cells HB2.row (p + k) hpk, keysP_get hpk]
                    have hgp : getP ps (ps[p + k]).1 = some (ps[p + k]).2 := getP_of_mem HB2.sorted hmem
                    have hp16 := (HB2.small _ hmem).1
                    obtain ⟨x, hx, _, hlk⟩ := look_some HB2 (by omega) hgp
                    have hcv := bytesAt_conv hx
                    have hcm := HB2.cell.2.1
                    have HT : Hid (pcells (L.take (k + 1)) = pcells (L.take k) ++ [.string (ps[p + k]).1, .string (ps[p + k]).2]) := Lib.hid (by
                      rw [List.take_add_one, hget k hk2, List.getElem?_eq_getElem hpk, pcells_append]; rfl)
                    generalize (ps[p + k]).1 = ky at *
                    generalize (ps[p + k]).2 = vl at *
                    rw [Nat.zero_add] at hck
                    have HR := Lib.hid hrow
                    clear hx hmem hgp HB2 hrow hget
                    go_wp2_with (at_builtin; refine wpList_append_own _ rfl _ _ 47 rfl w.heap.size 57 i0 (.agg #[.string ⟨#[]⟩, .string ⟨#[]⟩]) 2 32 Try.underlying47 hi hz0 hz1 hz2 rfl (by decide) _ k (pcells (L.take k)) rfl (HR.out.alloc _) ⟨wr.heap.size, 0, none⟩ 1 1 [.string ky, .string vl] rfl rfl (two_new _ _ _ _) (two_one _ _) (by unfold maxLen; omega) (by omega) (by have := hbr.size; simp; omega) ?_; intro v' w1 hown' hgrow hnil)
                    have hb6 : Below w.heap.size w w1 := (hbr.alloc hbr.size _).grown hgrow (by have := hbr.size; simp; omega) (fun j e => (HR.out.lt j e).1)
                    rw [← HT.out] at hown'
                    go_roundw
                    case rel => exact ⟨k + 1, by omega, by go_num, hown', hb6⟩
                    case measure => simp [intOf]; omega
              · obtain rfl : k = min N (ps.length - p) := by omega
                rw [List.take_of_length_le (by omega)] at hrow
                rw [← hcnt] at hrow
                rw [HPL.out] at hrow
                go_wp2
                go_ret2
                exact ⟨_, rfl, hrow, hbr⟩
  · rw [e2] at HM ⊢
    simp only [show ¬ ((2 : Int) = 0) from by decide, if_false]
    clear h
    go_enter Try.func37, Try.ntmps37
    go_wp2_with (go_at_call 62; refine HM.out.mono ?_; rintro e w' ⟨rfl, hn⟩)
    go_ret2
    exact ⟨_, rfl, prow_nil _ _, hn⟩

end Go.Proofs.Ytgfhaldfjnepmaa
