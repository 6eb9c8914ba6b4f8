/- Walk: does everything derived from a book agree with its reference model. -/
import Derived.Test.YtgfhaldfjnepmaaBkR9
namespace Go.Proofs.Ytgfhaldfjnepmaa
open Go Go.RowKit Go.Shelf Go.Proofs
attribute [local go_sem] Oper.semAt_some

set_option maxRecDepth 100000 in
set_option maxHeartbeats 8000000 in
theorem looks_any {B b m : Nat} {v : Value} {K M : Nat} {ps : PS} (w : World) (h : BookAt w B b m v K M ps) (hn : ps.length < 70000) (a : Option Addr) (cap : Nat) (hr : PRow w 0 (.slice a ps.length cap) ps) (s : ByteArray) (hs : s.size ≤ 1000) :
    Calls Try.prog 39 #[.pointer (some ⟨b, 0, none⟩), .agg #[.slice a ps.length cap, .int .u64 K, .int .u64 M], .string s] w fun e w' => e = .returned (.bool true) ∧ Below w.heap.size w w' := by
  obtain ⟨w1, hw1⟩ : ∃ w1, w1 = w.alloc (.cells #[.slice a ps.length cap, .int .u64 K, .int .u64 M] 62) := ⟨_, rfl⟩
  have hB1 : Below w.heap.size w w1 := by rw [hw1]; exact (Below.refl _ _).alloc (Nat.le_refl _) _
  have hsz1 : w1.heap.size = w.heap.size + 1 := by rw [hw1]; simp
  have HC := Lib.hid (refbox w (.slice a ps.length cap) (.int .u64 K) (.int .u64 M))
  rw [← hw1, ← hsz1] at HC
  have hsm : ∀ p ∈ ps, p.1.size ≤ 1000 ∧ p.2.size ≤ 1000 := fun p hp => by have := h.small p hp; omega
  have HSM := Lib.hid h.small
  have HI := Lib.hid (prow_in (prow_below hB1 hr) hsm).1
  have HB := Lib.hid (h.below hB1)
  have HG := Lib.hid (get_val (K := K) (M := M) HB.out hs rfl rfl)
  have HR := Lib.hid (fun W (hb : Below w1.heap.size w1 W) => refget_any a ps.length cap K M ps W (HI.out.below hb) (by omega) h.sorted s (by omega))
  rw [hw1] at HG
  have hvv : ((getV ps s).toList == (getV ps s).toList) = true := by simp
  generalize getV ps s = V at *
  generalize getE ps s = E at *
  clear h hr
  go_enter Try.func39, Try.ntmps39
  go_wp2_with (first
    | (go_at_call 45; refine HG.out.mono ?_; clear HG; rintro e w2 ⟨rfl, hn2⟩; rw [← hw1] at hn2; obtain ⟨c0, c1, c2⟩ := HC.out _ hn2)
    | (go_at_call 67; refine (HR.out _ hn2).mono ?_; clear HR; rintro e w3 ⟨rfl, hn3⟩))
  have hb3 := hn2.trans (hn3.mono hn2.size)
  have HCS := Lib.hid (fun w' (hb : Below w3.heap.size w3 w') => keep_cells (P := fun w' => w'.cell? ⟨w.heap.size, 0, none⟩ = some (.slice a ps.length cap) ∧ w'.cell? ⟨w.heap.size, 1, none⟩ = some (.int .u64 K) ∧ w'.cell? ⟨w.heap.size, 2, none⟩ = some (.int .u64 M)) (fun w' hb => HC.out _ (hb3.trans (hb.mono hb3.size))) hb)
  have hst := HCS.out w3 (Below.refl _ _)
  have HBK := Lib.hid (fun W (hb : Below w3.heap.size w3 W) => (HB.out.below hb3).below hb)
  have HIS := Lib.hid (fun W (hb : Below w3.heap.size w3 W) => (HI.out.below hb3).below hb)
  have HK1 := Lib.hid (fun W (hb : Below w3.heap.size w3 W) => keys_any W (HBK.out W hb) (by omega))
  have HK2 := Lib.hid (fun W (_ : Below w3.heap.size w3 W) => refkeys_any a ps.length cap K M W (by omega))
  have HY1 := Lib.hid (fun W (hb : Below w3.heap.size w3 W) => bytes_any W (HBK.out W hb))
  have HY2 := Lib.hid (fun W (hb : Below w3.heap.size w3 W) => refbytes_any a ps.length cap K M ps W (HIS.out W hb) (by omega) HSM.out)
  have HPA := Lib.hid (fun W (hb : Below w3.heap.size w3 W) => pairs_any W (HBK.out W hb) (by omega))
  have HFI := Lib.hid (hB1.trans (hb3.mono (by omega)))
  clear c0 c1 c2 hn2 hn3 hb3 hB1 hw1
  go_region_held3 (fun w' => (w'.cell? ⟨w.heap.size, 0, none⟩ = some (.slice a ps.length cap) ∧ w'.cell? ⟨w.heap.size, 1, none⟩ = some (.int .u64 K) ∧ w'.cell? ⟨w.heap.size, 2, none⟩ = some (.int .u64 M)) ∧ Below w3.heap.size w3 w')
    ((refine HCS.out _ ?_; first | assumption | exact Below.refl _ _ | exact (Below.refl _ _).drew | (go_split_ands; assumption) | (refine nx_alloc _ ?_; first | assumption | (go_split_ands; assumption))))
    (first
      | (go_at_call 34
         go_split_ands
         refine (HK1.out _ (by assumption)).mono ?_
         rintro e wa ⟨rfl, rfl⟩)
      | (go_at_call 68
         go_split_ands
         refine (HK2.out _ (by assumption)).mono ?_
         rintro e wb ⟨rfl, nb⟩
         have hbb : Below w3.heap.size w3 wb := below_chain (by assumption) nb)
      | (go_at_call 35
         go_split_ands
         refine (HY1.out _ (by assumption)).mono ?_
         rintro e wc ⟨rfl, rfl⟩)
      | (go_at_call 69
         go_split_ands
         refine (HY2.out _ (by assumption)).mono ?_
         rintro e wd ⟨rfl, nd⟩
         have hbd : Below w3.heap.size w3 wd := below_chain (by assumption) nd)
      | (go_at_call 30
         go_split_ands
         refine (HPA.out _ (by assumption)).mono ?_
         rintro e we ⟨pv, rfl, hp, ne⟩
         obtain ⟨pa, pc, rfl, hpi, _⟩ := prow_is hp hsm
         have hbe : Below w3.heap.size w3 we := below_chain (by assumption) ne)
      | (go_at_call 32
         go_split_ands
         refine (same_true (pc := pc) (qc := cap) (w := we) hpi (HIS.out _ hbe) rfl (by omega) (by omega)).mono ?_
         rintro e wf ⟨rfl, nf⟩
         have hbf : Below w3.heap.size w3 wf := below_chain hbe nf)
      | fail)
  all_goals
    go_wp2
    go_ret
    exact ⟨rfl, HFI.out.trans (hbf.mono HFI.out.size)⟩

end Go.Proofs.Ytgfhaldfjnepmaa
