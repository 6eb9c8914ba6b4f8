/- Walk: the chapter's example. -/
import Derived.Test.YtgfhaldfjnepmaaBk21
namespace Go.Proofs.Ytgfhaldfjnepmaa
open Go Go.RowKit Go.Shelf Go.Proofs
attribute [local go_sem] Oper.semAt_some

def sA : ByteArray := ⟨#[97]⟩
def sB : ByteArray := ⟨#[98]⟩
def sC : ByteArray := ⟨#[99]⟩
def s1234 : ByteArray := ⟨#[49, 50, 51, 52]⟩
def s123 : ByteArray := ⟨#[49, 50, 51]⟩
def s12 : ByteArray := ⟨#[49, 50]⟩
def s1 : ByteArray := ⟨#[49]⟩
def s0 : ByteArray := ⟨#[]⟩

def psA : PS := [(sA, s1234)]
def psAB : PS := [(sA, s1234), (sB, s123)]
def psB : PS := [(sB, s123)]
def psBC : PS := [(sB, s123), (sC, s12)]

theorem step1 : putE 2 9 [] sA s1234 = 0 ∧ putQ 2 9 [] sA s1234 = psA := by decide +kernel
theorem step2 : putE 2 9 psA sB s123 = 0 ∧ putQ 2 9 psA sB s123 = psAB := by decide +kernel
theorem step3 : putE 2 9 psAB sB s1234 = 10 ∧ putQ 2 9 psAB sB s1234 = psAB := by decide +kernel
theorem step4 : putE 2 9 psAB sC s0 = 10 ∧ putQ 2 9 psAB sC s0 = psAB := by decide +kernel
theorem step5 : swapE 2 9 psAB sA s12 s1 = 9 ∧ swapQ 2 9 psAB sA s12 s1 = psAB := by decide +kernel
theorem step6 : getE psAB sA = 0 ∧ delQ psAB sA = psB := by decide +kernel
theorem step7 : putE 2 9 psB sC s12 = 0 ∧ putQ 2 9 psB sC s12 = psBC := by decide +kernel

theorem put_step {K M : Nat} {ps qs : PS} {s x : ByteArray} {r : Int} (hE : putE K M ps s x = r ∧ putQ K M ps s x = qs) (hn : ps.length < 90000) (hs : s.size ≤ 1000) (hx : x.size ≤ 1000) {B b m : Nat} {v : Value} {w : World} (h : BookAt w B b m v K M ps) (hB : B ≤ w.heap.size) :
    Calls Try.prog 48 #[.pointer (some ⟨b, 0, none⟩), .string s, .string x] w fun e w' => e = .returned (.int .i64 r) ∧ ∃ v', BookAt w' B b m v' K M qs ∧ Below B w w' := by
  refine (put_any w h hn hB s x hs hx).mono ?_
  rintro e w' ⟨rfl, v', h1, h2⟩
  rw [hE.2] at h1
  exact ⟨by rw [hE.1], v', h1, Turned.below h h2 hB⟩

theorem aw1 {B b m : Nat} {v : Value} {w : World} (h : BookAt w B b m v 2 9 []) (hB : B ≤ w.heap.size) :
    Calls Try.prog 48 #[.pointer (some ⟨b, 0, none⟩), .string ⟨#[97]⟩, .string ⟨#[49, 50, 51, 52]⟩] w fun e w' => e = .returned (.int .i64 0) ∧ ∃ v', BookAt w' B b m v' 2 9 psA ∧ Below B w w' :=
  put_step step1 (by decide) (by decide) (by decide) h hB

theorem aw2 {B b m : Nat} {v : Value} {w : World} (h : BookAt w B b m v 2 9 psA) (hB : B ≤ w.heap.size) :
    Calls Try.prog 48 #[.pointer (some ⟨b, 0, none⟩), .string ⟨#[98]⟩, .string ⟨#[49, 50, 51]⟩] w fun e w' => e = .returned (.int .i64 0) ∧ ∃ v', BookAt w' B b m v' 2 9 psAB ∧ Below B w w' :=
  put_step step2 (by decide) (by decide) (by decide) h hB

theorem aw3 {B b m : Nat} {v : Value} {w : World} (h : BookAt w B b m v 2 9 psAB) (hB : B ≤ w.heap.size) :
    Calls Try.prog 48 #[.pointer (some ⟨b, 0, none⟩), .string ⟨#[98]⟩, .string ⟨#[49, 50, 51, 52]⟩] w fun e w' => e = .returned (.int .i64 10) ∧ ∃ v', BookAt w' B b m v' 2 9 psAB ∧ Below B w w' :=
  put_step step3 (by decide) (by decide) (by decide) h hB

theorem aw4 {B b m : Nat} {v : Value} {w : World} (h : BookAt w B b m v 2 9 psAB) (hB : B ≤ w.heap.size) :
    Calls Try.prog 48 #[.pointer (some ⟨b, 0, none⟩), .string ⟨#[99]⟩, .string ⟨#[]⟩] w fun e w' => e = .returned (.int .i64 10) ∧ ∃ v', BookAt w' B b m v' 2 9 psAB ∧ Below B w w' :=
  put_step step4 (by decide) (by decide) (by decide) h hB

theorem aw7 {B b m : Nat} {v : Value} {w : World} (h : BookAt w B b m v 2 9 psB) (hB : B ≤ w.heap.size) :
    Calls Try.prog 48 #[.pointer (some ⟨b, 0, none⟩), .string ⟨#[99]⟩, .string ⟨#[49, 50]⟩] w fun e w' => e = .returned (.int .i64 0) ∧ ∃ v', BookAt w' B b m v' 2 9 psBC ∧ Below B w w' :=
  put_step step7 (by decide) (by decide) (by decide) h hB

theorem aw5 {B b m : Nat} {v : Value} {w : World} (h : BookAt w B b m v 2 9 psAB) (hB : B ≤ w.heap.size) :
    Calls Try.prog 47 #[.pointer (some ⟨b, 0, none⟩), .string ⟨#[97]⟩, .string ⟨#[49, 50]⟩, .string ⟨#[49]⟩] w fun e w' => e = .returned (.int .i64 9) ∧ ∃ v', BookAt w' B b m v' 2 9 psAB ∧ Below B w w' := by
  refine (swap_any w h (by decide) hB sA s12 s1 (by decide) (by decide) (by decide)).mono ?_
  rintro e w' ⟨rfl, v', h1, h2⟩
  rw [step5.2] at h1
  exact ⟨by rw [step5.1], v', h1, Turned.below h h2 hB⟩

theorem aw6 {B b m : Nat} {v : Value} {w : World} (h : BookAt w B b m v 2 9 psAB) (hB : B ≤ w.heap.size) :
    Calls Try.prog 46 #[.pointer (some ⟨b, 0, none⟩), .string ⟨#[97]⟩] w fun e w' => e = .returned (.int .i64 0) ∧ ∃ v', BookAt w' B b m v' 2 9 psB ∧ Below B w w' := by
  refine (del_any w h (by decide) sA (by decide)).mono ?_
  rintro e w' ⟨rfl, v', h1, h2⟩
  rw [step6.2] at h1
  exact ⟨by rw [step6.1], v', h1, Turned.below h h2 hB⟩

theorem tot9 : ((totP psAB : Nat) : Int) = 9 := by decide +kernel
theorem tot7 : ((totP psBC : Nat) : Int) = 7 := by decide +kernel
theorem awY {B b m : Nat} {v : Value} {w : World} (h : BookAt w B b m v 2 9 psAB) : Calls Try.prog 35 #[.pointer (some ⟨b, 0, none⟩)] w fun e w' => e = .returned (.int .u64 9) ∧ w' = w := by
  have := bytes_any w h
  rw [tot9] at this
  exact this
theorem awZ {B b m : Nat} {v : Value} {w : World} (h : BookAt w B b m v 2 9 psBC) : Calls Try.prog 35 #[.pointer (some ⟨b, 0, none⟩)] w fun e w' => e = .returned (.int .u64 7) ∧ w' = w := by
  have := bytes_any w h
  rw [tot7] at this
  exact this
theorem awK {B b m : Nat} {v : Value} {w : World} (h : BookAt w B b m v 2 9 psBC) : Calls Try.prog 34 #[.pointer (some ⟨b, 0, none⟩)] w fun e w' => e = .returned (.int .u64 2) ∧ w' = w :=
  keys_any w h (by decide)
theorem aw0 (w : World) : Calls Try.prog 28 #[.agg #[.int .u64 2, .int .u64 9]] w fun e w' => ∃ b m, e = .returned (.pointer (some ⟨b, 0, none⟩)) ∧ BookAt w' w.heap.size b m (.slice none 0 0) 2 9 [] ∧ Below w.heap.size w w' :=
  new_any 2 9 w (by decide) (by decide)

set_option maxRecDepth 100000 in
set_option maxHeartbeats 4000000 in
theorem awake_any (w : World) : Calls Try.prog 27 #[] w fun e w' => e = .returned (.bool true) ∧ Below w.heap.size w w' := by
  go_enter Try.func27, Try.ntmps27
  go_wp2_with (first
    | (go_at_call 28; refine (aw0 _).mono ?_; rintro e w0 ⟨b, m, rfl, k0, b0⟩; have z0 := b0.size)
    | (go_at_call_of 48 (Value.string ⟨#[97]⟩); go_at_call_of 48 (Value.string ⟨#[49, 50, 51, 52]⟩); refine (aw1 k0 z0).mono ?_; rintro e w1 ⟨rfl, v1, k1, b1⟩; have z1 := Nat.le_trans z0 b1.size)
    | (go_at_call_of 48 (Value.string ⟨#[98]⟩); go_at_call_of 48 (Value.string ⟨#[49, 50, 51]⟩); refine (aw2 k1 z1).mono ?_; rintro e w2 ⟨rfl, v2, k2, b2⟩; have z2 := Nat.le_trans z1 b2.size)
    | (go_at_call_of 48 (Value.string ⟨#[98]⟩); go_at_call_of 48 (Value.string ⟨#[49, 50, 51, 52]⟩); refine (aw3 k2 z2).mono ?_; rintro e w3 ⟨rfl, v3, k3, b3⟩; have z3 := Nat.le_trans z2 b3.size)
    | (go_at_call_of 48 (Value.string ⟨#[99]⟩); go_at_call_of 48 (Value.string ⟨#[]⟩); refine (aw4 k3 z3).mono ?_; rintro e w4 ⟨rfl, v4, k4, b4⟩; have z4 := Nat.le_trans z3 b4.size)
    | (go_at_call_of 48 (Value.string ⟨#[99]⟩); go_at_call_of 48 (Value.string ⟨#[49, 50]⟩); refine (aw7 k6 z6).mono ?_; rintro e w7 ⟨rfl, v7, k7, b7⟩)
    | (go_at_call 47; refine (aw5 k4 z4).mono ?_; rintro e w5 ⟨rfl, v5, k5, b5⟩; have z5 := Nat.le_trans z4 b5.size)
    | (go_at_call 46; refine (aw6 k5 z5).mono ?_; rintro e w6 ⟨rfl, v6, k6, b6⟩; have z6 := Nat.le_trans z5 b6.size)
    | (go_at_call 35; have kk := k7; refine (awZ k7).mono ?_; rintro e w7 ⟨rfl, rfl⟩)
    | (go_at_call 35; refine (awY k2).mono ?_; rintro e w2 ⟨rfl, rfl⟩)
    | (go_at_call 34; refine (awK k7).mono ?_; rintro e w7 ⟨rfl, rfl⟩))
  go_ret
  exact ⟨rfl, ((((((b0.trans b1).trans b2).trans b3).trans b4).trans b5).trans b6).trans b7⟩

end Go.Proofs.Ytgfhaldfjnepmaa
