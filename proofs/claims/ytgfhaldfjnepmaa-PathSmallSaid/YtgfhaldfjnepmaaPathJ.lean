/- Walk of path.Join, over the library's contract of strings.Join. -/
import Derived.Test.YtgfhaldfjnepmaaPath10
import Derived.Test.YtgfhaldfjnepmaaPathShelf
namespace Go.Proofs.Ytgfhaldfjnepmaa
open Go Go.RowKit Go.Shelf Go.Proofs
attribute [local go_sem] Oper.semAt_some

theorem join_two (h t : ByteArray) (n : Int) : Lib.join (([h, t] : List ByteArray).map (·.data.toList)) ((⟨#[UInt8.ofNat n.toNat]⟩ : ByteArray).data.toList) = by_ h ++ UInt8.ofNat n.toNat :: by_ t := by
  simp [Lib.join, by_]

set_option maxRecDepth 100000 in
theorem join_any (h t : ByteArray) (n : Int) (w : World) (hh : h.size ≤ 10000000000000) (ht : t.size ≤ 10000000000000) :
    Calls Try.prog 25 #[.string h, .int .u8 n, .string t] w fun e w' => e = .returned (.string (joinS h n t)) ∧ Below w.heap.size w w' := by
  have hcv := fun n W c => conv1 (P := Try.prog) 74 9 5 Try.underlying74 Try.underlying5 Try.underlying9 n W c
  have hlen : (by_ h ++ UInt8.ofNat n.toNat :: by_ t).length ≤ 140737488355328 := by
    rw [List.length_append, List.length_cons, size_by, size_by]; omega
  have hc := Lib.hid (strJoin w.heap.size 0 2 [h, t] ⟨#[UInt8.ofNat n.toNat]⟩ ((w.alloc (.cells #[.string h, .string t] 9)).alloc (.cells #[.int .u8 n] 5)) (by
      intro j x hx
      rw [Nat.zero_add]
      rcases j with _ | _ | j
      · simp at hx; subst hx; simp
      · simp at hx; subst hx; simp
      · simp at hx) (by simp; omega) (by simp) (by simp) (by rw [join_two]; exact hlen))
  clear hlen
  have hB : Below w.heap.size w ((w.alloc (.cells #[.string h, .string t] 9)).alloc (.cells #[.int .u8 n] 5)) := ((Below.refl _ w).alloc (Nat.le_refl _) _).alloc (by simp) _
  have hcv1 := hcv n (w.alloc (.cells #[.string h, .string t] 9)) 1
  simp only [World.size_alloc] at hcv1
  go_enter Try.func25, Try.ntmps25
  go_wp2_with (go_at_call 60; refine hc.out.mono ?_; rintro e w' ⟨rfl, hn⟩)
  go_ret
  refine ⟨ret_str ?_, hB.trans (hn.mono hB.size)⟩
  exact congrArg (fun l : List UInt8 => (⟨l.toArray⟩ : ByteArray)) (join_two h t n)
end Go.Proofs.Ytgfhaldfjnepmaa
