/- Walks: every flat function of the kit says true of no lists. -/
import Derived.Test.YtegccicplcjcmaaBase
import Derived.Test.YtegccicplcjcmaaPairK
namespace Go.Proofs.Ytegccicplcjcmaa
open Go Go.RowKit Go.Shelf Go.Proofs
attribute [local go_sem] Oper.semAt_some

theorem mkLimbs (w : World) : (Instr.makeSlice 101 (.int .i64 0) (.int .i64 0)).run Try.prog w = .ok (.slice (some ⟨w.heap.size, 0, none⟩) 0 0) (w.alloc (.cells #[] 168)) := by kernel_rfl

set_option maxRecDepth 100000 in
set_option maxHeartbeats 4000000 in
theorem flatLimbs_nil (w : World) : Calls Try.prog 73 #[.slice none 0 0] w fun e w' => e = .returned (.bool true) ∧ Below w.heap.size w w' := by
  have hB0 := Below.refl w.heap.size w
  have hmk := mkLimbs
  go_enter Try.func73, Try.ntmps73
  go_wp2
  go_loopw [3] (fun i wr => i = .int .i64 0 ∧ Below w.heap.size w wr) (fun i _ => 0)
  case atStart => exact ⟨rfl, hB0⟩
  case round =>
    obtain ⟨rfl, hB1⟩ := hrel
    clear hB0
    have hB0 := hB1
    go_wp2
    go_loopw [6] (fun i wr => i = .int .i64 0 ∧ Below w.heap.size w wr) (fun i _ => 0)
    case atStart => exact ⟨rfl, hB0.alloc hB0.size _⟩
    case round =>
      obtain ⟨rfl, hB1⟩ := hrel
      clear hB0
      have hB0 := hB1
      go_wp2
      go_loopw [9] (fun i wr => i = .int .i64 0 ∧ Below w.heap.size w wr) (fun i _ => 0)
      case atStart => exact ⟨rfl, hB1⟩
      case round =>
        obtain ⟨rfl, hB1⟩ := hrel
        clear hB0
        have hB0 := hB1
        go_wp2
        go_loopw [11] (fun i wr => i = .int .i64 0 ∧ Below w.heap.size w wr) (fun i _ => 0)
        case atStart => exact ⟨rfl, hB1⟩
        case round =>
          obtain ⟨rfl, hB1⟩ := hrel
          clear hB0
          have hB0 := hB1
          go_wp2
          go_loopw [14] (fun i wr => i = .int .i64 0 ∧ Below w.heap.size w wr) (fun i _ => 0)
          case atStart => exact ⟨rfl, hB1⟩
          case round =>
            obtain ⟨rfl, hB1⟩ := hrel
            clear hB0
            go_wp2
            go_ret
            exact ⟨rfl, hB1⟩

theorem mkWords (w : World) : (Instr.makeSlice 102 (.int .i64 0) (.int .i64 0)).run Try.prog w = .ok (.slice (some ⟨w.heap.size, 0, none⟩) 0 0) (w.alloc (.cells #[] 170)) := by kernel_rfl

set_option maxRecDepth 100000 in
set_option maxHeartbeats 4000000 in
theorem flatWords_nil (w : World) : Calls Try.prog 74 #[.slice none 0 0] w fun e w' => e = .returned (.bool true) ∧ Below w.heap.size w w' := by
  have hB0 := Below.refl w.heap.size w
  have hmk := mkWords
  go_enter Try.func74, Try.ntmps74
  go_wp2
  go_loopw [3] (fun i wr => i = .int .i64 0 ∧ Below w.heap.size w wr) (fun i _ => 0)
  case atStart => exact ⟨rfl, hB0⟩
  case round =>
    obtain ⟨rfl, hB1⟩ := hrel
    clear hB0
    have hB0 := hB1
    go_wp2
    go_loopw [6] (fun i wr => i = .int .i64 0 ∧ Below w.heap.size w wr) (fun i _ => 0)
    case atStart => exact ⟨rfl, hB0.alloc hB0.size _⟩
    case round =>
      obtain ⟨rfl, hB1⟩ := hrel
      clear hB0
      have hB0 := hB1
      go_wp2
      go_loopw [9] (fun i wr => i = .int .i64 0 ∧ Below w.heap.size w wr) (fun i _ => 0)
      case atStart => exact ⟨rfl, hB1⟩
      case round =>
        obtain ⟨rfl, hB1⟩ := hrel
        clear hB0
        have hB0 := hB1
        go_wp2
        go_loopw [11] (fun i wr => i = .int .i64 0 ∧ Below w.heap.size w wr) (fun i _ => 0)
        case atStart => exact ⟨rfl, hB1⟩
        case round =>
          obtain ⟨rfl, hB1⟩ := hrel
          clear hB0
          have hB0 := hB1
          go_wp2
          go_loopw [14] (fun i wr => i = .int .i64 0 ∧ Below w.heap.size w wr) (fun i _ => 0)
          case atStart => exact ⟨rfl, hB1⟩
          case round =>
            obtain ⟨rfl, hB1⟩ := hrel
            clear hB0
            go_wp2
            go_ret
            exact ⟨rfl, hB1⟩

theorem mkInts (w : World) : (Instr.makeSlice 103 (.int .i64 0) (.int .i64 0)).run Try.prog w = .ok (.slice (some ⟨w.heap.size, 0, none⟩) 0 0) (w.alloc (.cells #[] 23)) := by kernel_rfl

set_option maxRecDepth 100000 in
set_option maxHeartbeats 4000000 in
theorem flatInts_nil (w : World) : Calls Try.prog 75 #[.slice none 0 0] w fun e w' => e = .returned (.bool true) ∧ Below w.heap.size w w' := by
  have hB0 := Below.refl w.heap.size w
  have hmk := mkInts
  go_enter Try.func75, Try.ntmps75
  go_wp2
  go_loopw [3] (fun i wr => i = .int .i64 0 ∧ Below w.heap.size w wr) (fun i _ => 0)
  case atStart => exact ⟨rfl, hB0⟩
  case round =>
    obtain ⟨rfl, hB1⟩ := hrel
    clear hB0
    have hB0 := hB1
    go_wp2
    go_loopw [6] (fun i wr => i = .int .i64 0 ∧ Below w.heap.size w wr) (fun i _ => 0)
    case atStart => exact ⟨rfl, hB0.alloc hB0.size _⟩
    case round =>
      obtain ⟨rfl, hB1⟩ := hrel
      clear hB0
      have hB0 := hB1
      go_wp2
      go_loopw [9] (fun i wr => i = .int .i64 0 ∧ Below w.heap.size w wr) (fun i _ => 0)
      case atStart => exact ⟨rfl, hB1⟩
      case round =>
        obtain ⟨rfl, hB1⟩ := hrel
        clear hB0
        have hB0 := hB1
        go_wp2
        go_loopw [11] (fun i wr => i = .int .i64 0 ∧ Below w.heap.size w wr) (fun i _ => 0)
        case atStart => exact ⟨rfl, hB1⟩
        case round =>
          obtain ⟨rfl, hB1⟩ := hrel
          clear hB0
          have hB0 := hB1
          go_wp2
          go_loopw [14] (fun i wr => i = .int .i64 0 ∧ Below w.heap.size w wr) (fun i _ => 0)
          case atStart => exact ⟨rfl, hB1⟩
          case round =>
            obtain ⟨rfl, hB1⟩ := hrel
            clear hB0
            go_wp2
            go_ret
            exact ⟨rfl, hB1⟩

theorem mkLongs (w : World) : (Instr.makeSlice 104 (.int .i64 0) (.int .i64 0)).run Try.prog w = .ok (.slice (some ⟨w.heap.size, 0, none⟩) 0 0) (w.alloc (.cells #[] 172)) := by kernel_rfl

set_option maxRecDepth 100000 in
set_option maxHeartbeats 4000000 in
theorem flatLongs_nil (w : World) : Calls Try.prog 76 #[.slice none 0 0] w fun e w' => e = .returned (.bool true) ∧ Below w.heap.size w w' := by
  have hB0 := Below.refl w.heap.size w
  have hmk := mkLongs
  go_enter Try.func76, Try.ntmps76
  go_wp2
  go_loopw [3] (fun i wr => i = .int .i64 0 ∧ Below w.heap.size w wr) (fun i _ => 0)
  case atStart => exact ⟨rfl, hB0⟩
  case round =>
    obtain ⟨rfl, hB1⟩ := hrel
    clear hB0
    have hB0 := hB1
    go_wp2
    go_loopw [6] (fun i wr => i = .int .i64 0 ∧ Below w.heap.size w wr) (fun i _ => 0)
    case atStart => exact ⟨rfl, hB0.alloc hB0.size _⟩
    case round =>
      obtain ⟨rfl, hB1⟩ := hrel
      clear hB0
      have hB0 := hB1
      go_wp2
      go_loopw [9] (fun i wr => i = .int .i64 0 ∧ Below w.heap.size w wr) (fun i _ => 0)
      case atStart => exact ⟨rfl, hB1⟩
      case round =>
        obtain ⟨rfl, hB1⟩ := hrel
        clear hB0
        have hB0 := hB1
        go_wp2
        go_loopw [11] (fun i wr => i = .int .i64 0 ∧ Below w.heap.size w wr) (fun i _ => 0)
        case atStart => exact ⟨rfl, hB1⟩
        case round =>
          obtain ⟨rfl, hB1⟩ := hrel
          clear hB0
          have hB0 := hB1
          go_wp2
          go_loopw [14] (fun i wr => i = .int .i64 0 ∧ Below w.heap.size w wr) (fun i _ => 0)
          case atStart => exact ⟨rfl, hB1⟩
          case round =>
            obtain ⟨rfl, hB1⟩ := hrel
            clear hB0
            go_wp2
            go_ret
            exact ⟨rfl, hB1⟩

theorem mkTexts (w : World) : (Instr.makeSlice 105 (.int .i64 0) (.int .i64 0)).run Try.prog w = .ok (.slice (some ⟨w.heap.size, 0, none⟩) 0 0) (w.alloc (.cells #[] 22)) := by kernel_rfl

set_option maxRecDepth 100000 in
set_option maxHeartbeats 4000000 in
theorem flatTexts_nil (w : World) : Calls Try.prog 77 #[.slice none 0 0] w fun e w' => e = .returned (.bool true) ∧ Below w.heap.size w w' := by
  have hB0 := Below.refl w.heap.size w
  have hmk := mkTexts
  go_enter Try.func77, Try.ntmps77
  go_wp2
  go_loopw [3] (fun i wr => i = .int .i64 0 ∧ Below w.heap.size w wr) (fun i _ => 0)
  case atStart => exact ⟨rfl, hB0⟩
  case round =>
    obtain ⟨rfl, hB1⟩ := hrel
    clear hB0
    have hB0 := hB1
    go_wp2
    go_loopw [6] (fun i wr => i = .int .i64 0 ∧ Below w.heap.size w wr) (fun i _ => 0)
    case atStart => exact ⟨rfl, hB0.alloc hB0.size _⟩
    case round =>
      obtain ⟨rfl, hB1⟩ := hrel
      clear hB0
      have hB0 := hB1
      go_wp2
      go_loopw [9] (fun i wr => i = .int .i64 0 ∧ Below w.heap.size w wr) (fun i _ => 0)
      case atStart => exact ⟨rfl, hB1⟩
      case round =>
        obtain ⟨rfl, hB1⟩ := hrel
        clear hB0
        have hB0 := hB1
        go_wp2
        go_loopw [11] (fun i wr => i = .int .i64 0 ∧ Below w.heap.size w wr) (fun i _ => 0)
        case atStart => exact ⟨rfl, hB1⟩
        case round =>
          obtain ⟨rfl, hB1⟩ := hrel
          clear hB0
          have hB0 := hB1
          go_wp2
          go_loopw [14] (fun i wr => i = .int .i64 0 ∧ Below w.heap.size w wr) (fun i _ => 0)
          case atStart => exact ⟨rfl, hB1⟩
          case round =>
            obtain ⟨rfl, hB1⟩ := hrel
            clear hB0
            go_wp2
            go_ret
            exact ⟨rfl, hB1⟩

theorem mkBytes (w : World) : (Instr.makeSlice 106 (.int .i64 0) (.int .i64 0)).run Try.prog w = .ok (.slice (some ⟨w.heap.size, 0, none⟩) 0 0) (w.alloc (.cells #[] 130)) := by kernel_rfl

set_option maxRecDepth 100000 in
set_option maxHeartbeats 4000000 in
theorem flatBytes_nil (w : World) : Calls Try.prog 78 #[.slice none 0 0] w fun e w' => e = .returned (.bool true) ∧ Below w.heap.size w w' := by
  have hB0 := Below.refl w.heap.size w
  have hmk := mkBytes
  go_enter Try.func78, Try.ntmps78
  go_wp2
  go_loopw [3] (fun i wr => i = .int .i64 0 ∧ Below w.heap.size w wr) (fun i _ => 0)
  case atStart => exact ⟨rfl, hB0⟩
  case round =>
    obtain ⟨rfl, hB1⟩ := hrel
    clear hB0
    have hB0 := hB1
    go_wp2
    go_loopw [6] (fun i wr => i = .int .i64 0 ∧ Below w.heap.size w wr) (fun i _ => 0)
    case atStart => exact ⟨rfl, hB0.alloc hB0.size _⟩
    case round =>
      obtain ⟨rfl, hB1⟩ := hrel
      clear hB0
      have hB0 := hB1
      go_wp2
      go_loopw [9] (fun i wr => i = .int .i64 0 ∧ Below w.heap.size w wr) (fun i _ => 0)
      case atStart => exact ⟨rfl, hB1⟩
      case round =>
        obtain ⟨rfl, hB1⟩ := hrel
        clear hB0
        have hB0 := hB1
        go_wp2
        go_loopw [11] (fun i wr => i = .int .i64 0 ∧ Below w.heap.size w wr) (fun i _ => 0)
        case atStart => exact ⟨rfl, hB1⟩
        case round =>
          obtain ⟨rfl, hB1⟩ := hrel
          clear hB0
          have hB0 := hB1
          go_wp2
          go_loopw [14] (fun i wr => i = .int .i64 0 ∧ Below w.heap.size w wr) (fun i _ => 0)
          case atStart => exact ⟨rfl, hB1⟩
          case round =>
            obtain ⟨rfl, hB1⟩ := hrel
            clear hB0
            go_wp2
            go_ret
            exact ⟨rfl, hB1⟩

theorem mkTruths (w : World) : (Instr.makeSlice 107 (.int .i64 0) (.int .i64 0)).run Try.prog w = .ok (.slice (some ⟨w.heap.size, 0, none⟩) 0 0) (w.alloc (.cells #[] 175)) := by kernel_rfl

set_option maxRecDepth 100000 in
set_option maxHeartbeats 4000000 in
theorem flatTruths_nil (w : World) : Calls Try.prog 79 #[.slice none 0 0] w fun e w' => e = .returned (.bool true) ∧ Below w.heap.size w w' := by
  have hB0 := Below.refl w.heap.size w
  have hmk := mkTruths
  go_enter Try.func79, Try.ntmps79
  go_wp2
  go_loopw [3] (fun i wr => i = .int .i64 0 ∧ Below w.heap.size w wr) (fun i _ => 0)
  case atStart => exact ⟨rfl, hB0⟩
  case round =>
    obtain ⟨rfl, hB1⟩ := hrel
    clear hB0
    have hB0 := hB1
    go_wp2
    go_loopw [6] (fun i wr => i = .int .i64 0 ∧ Below w.heap.size w wr) (fun i _ => 0)
    case atStart => exact ⟨rfl, hB0.alloc hB0.size _⟩
    case round =>
      obtain ⟨rfl, hB1⟩ := hrel
      clear hB0
      have hB0 := hB1
      go_wp2
      go_loopw [9] (fun i wr => i = .int .i64 0 ∧ Below w.heap.size w wr) (fun i _ => 0)
      case atStart => exact ⟨rfl, hB1⟩
      case round =>
        obtain ⟨rfl, hB1⟩ := hrel
        clear hB0
        have hB0 := hB1
        go_wp2
        go_loopw [11] (fun i wr => i = .int .i64 0 ∧ Below w.heap.size w wr) (fun i _ => 0)
        case atStart => exact ⟨rfl, hB1⟩
        case round =>
          obtain ⟨rfl, hB1⟩ := hrel
          clear hB0
          have hB0 := hB1
          go_wp2
          go_loopw [14] (fun i wr => i = .int .i64 0 ∧ Below w.heap.size w wr) (fun i _ => 0)
          case atStart => exact ⟨rfl, hB1⟩
          case round =>
            obtain ⟨rfl, hB1⟩ := hrel
            clear hB0
            go_wp2
            go_ret
            exact ⟨rfl, hB1⟩

theorem mkRefs (w : World) : (Instr.makeSlice 108 (.int .i64 0) (.int .i64 0)).run Try.prog w = .ok (.slice (some ⟨w.heap.size, 0, none⟩) 0 0) (w.alloc (.cells #[] 176)) := by kernel_rfl

set_option maxRecDepth 100000 in
set_option maxHeartbeats 4000000 in
theorem flatRefs_nil (w : World) : Calls Try.prog 80 #[.slice none 0 0] w fun e w' => e = .returned (.bool true) ∧ Below w.heap.size w w' := by
  have hB0 := Below.refl w.heap.size w
  have hmk := mkRefs
  go_enter Try.func80, Try.ntmps80
  go_wp2
  go_loopw [3] (fun i wr => i = .int .i64 0 ∧ Below w.heap.size w wr) (fun i _ => 0)
  case atStart => exact ⟨rfl, hB0⟩
  case round =>
    obtain ⟨rfl, hB1⟩ := hrel
    clear hB0
    have hB0 := hB1
    go_wp2
    go_loopw [6] (fun i wr => i = .int .i64 0 ∧ Below w.heap.size w wr) (fun i _ => 0)
    case atStart => exact ⟨rfl, hB0.alloc hB0.size _⟩
    case round =>
      obtain ⟨rfl, hB1⟩ := hrel
      clear hB0
      have hB0 := hB1
      go_wp2
      go_loopw [9] (fun i wr => i = .int .i64 0 ∧ Below w.heap.size w wr) (fun i _ => 0)
      case atStart => exact ⟨rfl, hB1⟩
      case round =>
        obtain ⟨rfl, hB1⟩ := hrel
        clear hB0
        have hB0 := hB1
        go_wp2
        go_loopw [11] (fun i wr => i = .int .i64 0 ∧ Below w.heap.size w wr) (fun i _ => 0)
        case atStart => exact ⟨rfl, hB1⟩
        case round =>
          obtain ⟨rfl, hB1⟩ := hrel
          clear hB0
          have hB0 := hB1
          go_wp2
          go_loopw [14] (fun i wr => i = .int .i64 0 ∧ Below w.heap.size w wr) (fun i _ => 0)
          case atStart => exact ⟨rfl, hB1⟩
          case round =>
            obtain ⟨rfl, hB1⟩ := hrel
            clear hB0
            go_wp2
            go_ret
            exact ⟨rfl, hB1⟩

theorem mkPairs (w : World) : (Instr.makeSlice 80 (.int .i64 0) (.int .i64 0)).run Try.prog w = .ok (.slice (some ⟨w.heap.size, 0, none⟩) 0 0) (w.alloc (.cells #[] 26)) := by kernel_rfl

set_option maxRecDepth 100000 in
set_option maxHeartbeats 4000000 in
theorem flatPairs_nil (w : World) : Calls Try.prog 81 #[.slice none 0 0] w fun e w' => e = .returned (.bool true) ∧ Below w.heap.size w w' := by
  have hB0 := Below.refl w.heap.size w
  have hmk := mkPairs
  go_enter Try.func81, Try.ntmps81
  go_wp2
  go_loopw [3] (fun i wr => i = .int .i64 0 ∧ Below w.heap.size w wr) (fun i _ => 0)
  case atStart => exact ⟨rfl, hB0⟩
  case round =>
    obtain ⟨rfl, hB1⟩ := hrel
    clear hB0
    have hB0 := hB1
    go_wp2
    go_loopw [6] (fun i wr => i = .int .i64 0 ∧ Below w.heap.size w wr) (fun i _ => 0)
    case atStart => exact ⟨rfl, hB0.alloc hB0.size _⟩
    case round =>
      obtain ⟨rfl, hB1⟩ := hrel
      clear hB0
      have hB0 := hB1
      go_wp2
      go_loopw [9] (fun i wr => i = .int .i64 0 ∧ Below w.heap.size w wr) (fun i _ => 0)
      case atStart => exact ⟨rfl, hB1⟩
      case round =>
        obtain ⟨rfl, hB1⟩ := hrel
        clear hB0
        have hB0 := hB1
        go_wp2
        go_loopw [11] (fun i wr => i = .int .i64 0 ∧ Below w.heap.size w wr) (fun i _ => 0)
        case atStart => exact ⟨rfl, hB1⟩
        case round =>
          obtain ⟨rfl, hB1⟩ := hrel
          clear hB0
          have hB0 := hB1
          go_wp2
          go_loopw [14] (fun i wr => i = .int .i64 0 ∧ Below w.heap.size w wr) (fun i _ => 0)
          case atStart => exact ⟨rfl, hB1⟩
          case round =>
            obtain ⟨rfl, hB1⟩ := hrel
            clear hB0
            go_wp2
            go_ret
            exact ⟨rfl, hB1⟩

theorem mkNodes (w : World) : (Instr.makeSlice 109 (.int .i64 0) (.int .i64 0)).run Try.prog w = .ok (.slice (some ⟨w.heap.size, 0, none⟩) 0 0) (w.alloc (.cells #[] 181)) := by kernel_rfl

set_option maxRecDepth 100000 in
set_option maxHeartbeats 4000000 in
theorem flatNodes_nil (w : World) : Calls Try.prog 82 #[.slice none 0 0] w fun e w' => e = .returned (.bool true) ∧ Below w.heap.size w w' := by
  have hB0 := Below.refl w.heap.size w
  have hmk := mkNodes
  go_enter Try.func82, Try.ntmps82
  go_wp2
  go_loopw [3] (fun i wr => i = .int .i64 0 ∧ Below w.heap.size w wr) (fun i _ => 0)
  case atStart => exact ⟨rfl, hB0⟩
  case round =>
    obtain ⟨rfl, hB1⟩ := hrel
    clear hB0
    have hB0 := hB1
    go_wp2
    go_loopw [6] (fun i wr => i = .int .i64 0 ∧ Below w.heap.size w wr) (fun i _ => 0)
    case atStart => exact ⟨rfl, hB0.alloc hB0.size _⟩
    case round =>
      obtain ⟨rfl, hB1⟩ := hrel
      clear hB0
      have hB0 := hB1
      go_wp2
      go_loopw [9] (fun i wr => i = .int .i64 0 ∧ Below w.heap.size w wr) (fun i _ => 0)
      case atStart => exact ⟨rfl, hB1⟩
      case round =>
        obtain ⟨rfl, hB1⟩ := hrel
        clear hB0
        have hB0 := hB1
        go_wp2
        go_loopw [11] (fun i wr => i = .int .i64 0 ∧ Below w.heap.size w wr) (fun i _ => 0)
        case atStart => exact ⟨rfl, hB1⟩
        case round =>
          obtain ⟨rfl, hB1⟩ := hrel
          clear hB0
          have hB0 := hB1
          go_wp2
          go_loopw [14] (fun i wr => i = .int .i64 0 ∧ Below w.heap.size w wr) (fun i _ => 0)
          case atStart => exact ⟨rfl, hB1⟩
          case round =>
            obtain ⟨rfl, hB1⟩ := hrel
            clear hB0
            go_wp2
            go_ret
            exact ⟨rfl, hB1⟩

theorem mkBounds (w : World) : (Instr.makeSlice 110 (.int .i64 0) (.int .i64 0)).run Try.prog w = .ok (.slice (some ⟨w.heap.size, 0, none⟩) 0 0) (w.alloc (.cells #[] 187)) := by kernel_rfl

set_option maxRecDepth 100000 in
set_option maxHeartbeats 4000000 in
theorem flatBounds_nil (w : World) : Calls Try.prog 83 #[.slice none 0 0] w fun e w' => e = .returned (.bool true) ∧ Below w.heap.size w w' := by
  have hB0 := Below.refl w.heap.size w
  have hmk := mkBounds
  go_enter Try.func83, Try.ntmps83
  go_wp2
  go_loopw [3] (fun i wr => i = .int .i64 0 ∧ Below w.heap.size w wr) (fun i _ => 0)
  case atStart => exact ⟨rfl, hB0⟩
  case round =>
    obtain ⟨rfl, hB1⟩ := hrel
    clear hB0
    have hB0 := hB1
    go_wp2
    go_loopw [6] (fun i wr => i = .int .i64 0 ∧ Below w.heap.size w wr) (fun i _ => 0)
    case atStart => exact ⟨rfl, hB0.alloc hB0.size _⟩
    case round =>
      obtain ⟨rfl, hB1⟩ := hrel
      clear hB0
      have hB0 := hB1
      go_wp2
      go_loopw [9] (fun i wr => i = .int .i64 0 ∧ Below w.heap.size w wr) (fun i _ => 0)
      case atStart => exact ⟨rfl, hB1⟩
      case round =>
        obtain ⟨rfl, hB1⟩ := hrel
        clear hB0
        have hB0 := hB1
        go_wp2
        go_loopw [11] (fun i wr => i = .int .i64 0 ∧ Below w.heap.size w wr) (fun i _ => 0)
        case atStart => exact ⟨rfl, hB1⟩
        case round =>
          obtain ⟨rfl, hB1⟩ := hrel
          clear hB0
          have hB0 := hB1
          go_wp2
          go_loopw [14] (fun i wr => i = .int .i64 0 ∧ Below w.heap.size w wr) (fun i _ => 0)
          case atStart => exact ⟨rfl, hB1⟩
          case round =>
            obtain ⟨rfl, hB1⟩ := hrel
            clear hB0
            go_wp2
            go_ret
            exact ⟨rfl, hB1⟩

theorem mkHandles (w : World) : (Instr.makeSlice 111 (.int .i64 0) (.int .i64 0)).run Try.prog w = .ok (.slice (some ⟨w.heap.size, 0, none⟩) 0 0) (w.alloc (.cells #[] 191)) := by kernel_rfl

set_option maxRecDepth 100000 in
set_option maxHeartbeats 4000000 in
theorem flatHandles_nil (w : World) : Calls Try.prog 84 #[.slice none 0 0] w fun e w' => e = .returned (.bool true) ∧ Below w.heap.size w w' := by
  have hB0 := Below.refl w.heap.size w
  have hmk := mkHandles
  go_enter Try.func84, Try.ntmps84
  go_wp2
  go_loopw [3] (fun i wr => i = .int .i64 0 ∧ Below w.heap.size w wr) (fun i _ => 0)
  case atStart => exact ⟨rfl, hB0⟩
  case round =>
    obtain ⟨rfl, hB1⟩ := hrel
    clear hB0
    have hB0 := hB1
    go_wp2
    go_loopw [6] (fun i wr => i = .int .i64 0 ∧ Below w.heap.size w wr) (fun i _ => 0)
    case atStart => exact ⟨rfl, hB0.alloc hB0.size _⟩
    case round =>
      obtain ⟨rfl, hB1⟩ := hrel
      clear hB0
      have hB0 := hB1
      go_wp2
      go_loopw [9] (fun i wr => i = .int .i64 0 ∧ Below w.heap.size w wr) (fun i _ => 0)
      case atStart => exact ⟨rfl, hB1⟩
      case round =>
        obtain ⟨rfl, hB1⟩ := hrel
        clear hB0
        have hB0 := hB1
        go_wp2
        go_loopw [11] (fun i wr => i = .int .i64 0 ∧ Below w.heap.size w wr) (fun i _ => 0)
        case atStart => exact ⟨rfl, hB1⟩
        case round =>
          obtain ⟨rfl, hB1⟩ := hrel
          clear hB0
          have hB0 := hB1
          go_wp2
          go_loopw [14] (fun i wr => i = .int .i64 0 ∧ Below w.heap.size w wr) (fun i _ => 0)
          case atStart => exact ⟨rfl, hB1⟩
          case round =>
            obtain ⟨rfl, hB1⟩ := hrel
            clear hB0
            go_wp2
            go_ret
            exact ⟨rfl, hB1⟩

theorem mkRequests (w : World) : (Instr.makeSlice 112 (.int .i64 0) (.int .i64 0)).run Try.prog w = .ok (.slice (some ⟨w.heap.size, 0, none⟩) 0 0) (w.alloc (.cells #[] 196)) := by kernel_rfl

set_option maxRecDepth 100000 in
set_option maxHeartbeats 4000000 in
theorem flatRequests_nil (w : World) : Calls Try.prog 85 #[.slice none 0 0] w fun e w' => e = .returned (.bool true) ∧ Below w.heap.size w w' := by
  have hB0 := Below.refl w.heap.size w
  have hmk := mkRequests
  go_enter Try.func85, Try.ntmps85
  go_wp2
  go_loopw [3] (fun i wr => i = .int .i64 0 ∧ Below w.heap.size w wr) (fun i _ => 0)
  case atStart => exact ⟨rfl, hB0⟩
  case round =>
    obtain ⟨rfl, hB1⟩ := hrel
    clear hB0
    have hB0 := hB1
    go_wp2
    go_loopw [6] (fun i wr => i = .int .i64 0 ∧ Below w.heap.size w wr) (fun i _ => 0)
    case atStart => exact ⟨rfl, hB0.alloc hB0.size _⟩
    case round =>
      obtain ⟨rfl, hB1⟩ := hrel
      clear hB0
      have hB0 := hB1
      go_wp2
      go_loopw [9] (fun i wr => i = .int .i64 0 ∧ Below w.heap.size w wr) (fun i _ => 0)
      case atStart => exact ⟨rfl, hB1⟩
      case round =>
        obtain ⟨rfl, hB1⟩ := hrel
        clear hB0
        have hB0 := hB1
        go_wp2
        go_loopw [11] (fun i wr => i = .int .i64 0 ∧ Below w.heap.size w wr) (fun i _ => 0)
        case atStart => exact ⟨rfl, hB1⟩
        case round =>
          obtain ⟨rfl, hB1⟩ := hrel
          clear hB0
          have hB0 := hB1
          go_wp2
          go_loopw [14] (fun i wr => i = .int .i64 0 ∧ Below w.heap.size w wr) (fun i _ => 0)
          case atStart => exact ⟨rfl, hB1⟩
          case round =>
            obtain ⟨rfl, hB1⟩ := hrel
            clear hB0
            go_wp2
            go_ret
            exact ⟨rfl, hB1⟩

theorem mkStats (w : World) : (Instr.makeSlice 113 (.int .i64 0) (.int .i64 0)).run Try.prog w = .ok (.slice (some ⟨w.heap.size, 0, none⟩) 0 0) (w.alloc (.cells #[] 201)) := by kernel_rfl

set_option maxRecDepth 100000 in
set_option maxHeartbeats 4000000 in
theorem flatStats_nil (w : World) : Calls Try.prog 86 #[.slice none 0 0] w fun e w' => e = .returned (.bool true) ∧ Below w.heap.size w w' := by
  have hB0 := Below.refl w.heap.size w
  have hmk := mkStats
  go_enter Try.func86, Try.ntmps86
  go_wp2
  go_loopw [3] (fun i wr => i = .int .i64 0 ∧ Below w.heap.size w wr) (fun i _ => 0)
  case atStart => exact ⟨rfl, hB0⟩
  case round =>
    obtain ⟨rfl, hB1⟩ := hrel
    clear hB0
    have hB0 := hB1
    go_wp2
    go_loopw [6] (fun i wr => i = .int .i64 0 ∧ Below w.heap.size w wr) (fun i _ => 0)
    case atStart => exact ⟨rfl, hB0.alloc hB0.size _⟩
    case round =>
      obtain ⟨rfl, hB1⟩ := hrel
      clear hB0
      have hB0 := hB1
      go_wp2
      go_loopw [9] (fun i wr => i = .int .i64 0 ∧ Below w.heap.size w wr) (fun i _ => 0)
      case atStart => exact ⟨rfl, hB1⟩
      case round =>
        obtain ⟨rfl, hB1⟩ := hrel
        clear hB0
        have hB0 := hB1
        go_wp2
        go_loopw [11] (fun i wr => i = .int .i64 0 ∧ Below w.heap.size w wr) (fun i _ => 0)
        case atStart => exact ⟨rfl, hB1⟩
        case round =>
          obtain ⟨rfl, hB1⟩ := hrel
          clear hB0
          have hB0 := hB1
          go_wp2
          go_loopw [14] (fun i wr => i = .int .i64 0 ∧ Below w.heap.size w wr) (fun i _ => 0)
          case atStart => exact ⟨rfl, hB1⟩
          case round =>
            obtain ⟨rfl, hB1⟩ := hrel
            clear hB0
            go_wp2
            go_ret
            exact ⟨rfl, hB1⟩

theorem mkAnswers (w : World) : (Instr.makeSlice 114 (.int .i64 0) (.int .i64 0)).run Try.prog w = .ok (.slice (some ⟨w.heap.size, 0, none⟩) 0 0) (w.alloc (.cells #[] 206)) := by kernel_rfl

set_option maxRecDepth 100000 in
set_option maxHeartbeats 4000000 in
theorem flatAnswers_nil (w : World) : Calls Try.prog 87 #[.slice none 0 0] w fun e w' => e = .returned (.bool true) ∧ Below w.heap.size w w' := by
  have hB0 := Below.refl w.heap.size w
  have hmk := mkAnswers
  go_enter Try.func87, Try.ntmps87
  go_wp2
  go_loopw [3] (fun i wr => i = .int .i64 0 ∧ Below w.heap.size w wr) (fun i _ => 0)
  case atStart => exact ⟨rfl, hB0⟩
  case round =>
    obtain ⟨rfl, hB1⟩ := hrel
    clear hB0
    have hB0 := hB1
    go_wp2
    go_loopw [6] (fun i wr => i = .int .i64 0 ∧ Below w.heap.size w wr) (fun i _ => 0)
    case atStart => exact ⟨rfl, hB0.alloc hB0.size _⟩
    case round =>
      obtain ⟨rfl, hB1⟩ := hrel
      clear hB0
      have hB0 := hB1
      go_wp2
      go_loopw [9] (fun i wr => i = .int .i64 0 ∧ Below w.heap.size w wr) (fun i _ => 0)
      case atStart => exact ⟨rfl, hB1⟩
      case round =>
        obtain ⟨rfl, hB1⟩ := hrel
        clear hB0
        have hB0 := hB1
        go_wp2
        go_loopw [11] (fun i wr => i = .int .i64 0 ∧ Below w.heap.size w wr) (fun i _ => 0)
        case atStart => exact ⟨rfl, hB1⟩
        case round =>
          obtain ⟨rfl, hB1⟩ := hrel
          clear hB0
          have hB0 := hB1
          go_wp2
          go_loopw [14] (fun i wr => i = .int .i64 0 ∧ Below w.heap.size w wr) (fun i _ => 0)
          case atStart => exact ⟨rfl, hB1⟩
          case round =>
            obtain ⟨rfl, hB1⟩ := hrel
            clear hB0
            go_wp2
            go_ret
            exact ⟨rfl, hB1⟩

theorem mkEntries (w : World) : (Instr.makeSlice 115 (.int .i64 0) (.int .i64 0)).run Try.prog w = .ok (.slice (some ⟨w.heap.size, 0, none⟩) 0 0) (w.alloc (.cells #[] 211)) := by kernel_rfl

set_option maxRecDepth 100000 in
set_option maxHeartbeats 4000000 in
theorem flatEntries_nil (w : World) : Calls Try.prog 88 #[.slice none 0 0] w fun e w' => e = .returned (.bool true) ∧ Below w.heap.size w w' := by
  have hB0 := Below.refl w.heap.size w
  have hmk := mkEntries
  go_enter Try.func88, Try.ntmps88
  go_wp2
  go_loopw [3] (fun i wr => i = .int .i64 0 ∧ Below w.heap.size w wr) (fun i _ => 0)
  case atStart => exact ⟨rfl, hB0⟩
  case round =>
    obtain ⟨rfl, hB1⟩ := hrel
    clear hB0
    have hB0 := hB1
    go_wp2
    go_loopw [6] (fun i wr => i = .int .i64 0 ∧ Below w.heap.size w wr) (fun i _ => 0)
    case atStart => exact ⟨rfl, hB0.alloc hB0.size _⟩
    case round =>
      obtain ⟨rfl, hB1⟩ := hrel
      clear hB0
      have hB0 := hB1
      go_wp2
      go_loopw [9] (fun i wr => i = .int .i64 0 ∧ Below w.heap.size w wr) (fun i _ => 0)
      case atStart => exact ⟨rfl, hB1⟩
      case round =>
        obtain ⟨rfl, hB1⟩ := hrel
        clear hB0
        have hB0 := hB1
        go_wp2
        go_loopw [11] (fun i wr => i = .int .i64 0 ∧ Below w.heap.size w wr) (fun i _ => 0)
        case atStart => exact ⟨rfl, hB1⟩
        case round =>
          obtain ⟨rfl, hB1⟩ := hrel
          clear hB0
          have hB0 := hB1
          go_wp2
          go_loopw [14] (fun i wr => i = .int .i64 0 ∧ Below w.heap.size w wr) (fun i _ => 0)
          case atStart => exact ⟨rfl, hB1⟩
          case round =>
            obtain ⟨rfl, hB1⟩ := hrel
            clear hB0
            go_wp2
            go_ret
            exact ⟨rfl, hB1⟩

theorem mkScripts (w : World) : (Instr.makeSlice 116 (.int .i64 0) (.int .i64 0)).run Try.prog w = .ok (.slice (some ⟨w.heap.size, 0, none⟩) 0 0) (w.alloc (.cells #[] 215)) := by kernel_rfl

set_option maxRecDepth 100000 in
set_option maxHeartbeats 4000000 in
theorem flatScripts_nil (w : World) : Calls Try.prog 89 #[.slice none 0 0] w fun e w' => e = .returned (.bool true) ∧ Below w.heap.size w w' := by
  have hB0 := Below.refl w.heap.size w
  have hmk := mkScripts
  go_enter Try.func89, Try.ntmps89
  go_wp2
  go_loopw [3] (fun i wr => i = .int .i64 0 ∧ Below w.heap.size w wr) (fun i _ => 0)
  case atStart => exact ⟨rfl, hB0⟩
  case round =>
    obtain ⟨rfl, hB1⟩ := hrel
    clear hB0
    have hB0 := hB1
    go_wp2
    go_loopw [6] (fun i wr => i = .int .i64 0 ∧ Below w.heap.size w wr) (fun i _ => 0)
    case atStart => exact ⟨rfl, hB0.alloc hB0.size _⟩
    case round =>
      obtain ⟨rfl, hB1⟩ := hrel
      clear hB0
      have hB0 := hB1
      go_wp2
      go_loopw [9] (fun i wr => i = .int .i64 0 ∧ Below w.heap.size w wr) (fun i _ => 0)
      case atStart => exact ⟨rfl, hB1⟩
      case round =>
        obtain ⟨rfl, hB1⟩ := hrel
        clear hB0
        have hB0 := hB1
        go_wp2
        go_loopw [11] (fun i wr => i = .int .i64 0 ∧ Below w.heap.size w wr) (fun i _ => 0)
        case atStart => exact ⟨rfl, hB1⟩
        case round =>
          obtain ⟨rfl, hB1⟩ := hrel
          clear hB0
          have hB0 := hB1
          go_wp2
          go_loopw [14] (fun i wr => i = .int .i64 0 ∧ Below w.heap.size w wr) (fun i _ => 0)
          case atStart => exact ⟨rfl, hB1⟩
          case round =>
            obtain ⟨rfl, hB1⟩ := hrel
            clear hB0
            go_wp2
            go_ret
            exact ⟨rfl, hB1⟩

theorem mkDones (w : World) : (Instr.makeSlice 117 (.int .i64 0) (.int .i64 0)).run Try.prog w = .ok (.slice (some ⟨w.heap.size, 0, none⟩) 0 0) (w.alloc (.cells #[] 220)) := by kernel_rfl

set_option maxRecDepth 100000 in
set_option maxHeartbeats 4000000 in
theorem flatDones_nil (w : World) : Calls Try.prog 90 #[.slice none 0 0] w fun e w' => e = .returned (.bool true) ∧ Below w.heap.size w w' := by
  have hB0 := Below.refl w.heap.size w
  have hmk := mkDones
  go_enter Try.func90, Try.ntmps90
  go_wp2
  go_loopw [3] (fun i wr => i = .int .i64 0 ∧ Below w.heap.size w wr) (fun i _ => 0)
  case atStart => exact ⟨rfl, hB0⟩
  case round =>
    obtain ⟨rfl, hB1⟩ := hrel
    clear hB0
    have hB0 := hB1
    go_wp2
    go_loopw [6] (fun i wr => i = .int .i64 0 ∧ Below w.heap.size w wr) (fun i _ => 0)
    case atStart => exact ⟨rfl, hB0.alloc hB0.size _⟩
    case round =>
      obtain ⟨rfl, hB1⟩ := hrel
      clear hB0
      have hB0 := hB1
      go_wp2
      go_loopw [9] (fun i wr => i = .int .i64 0 ∧ Below w.heap.size w wr) (fun i _ => 0)
      case atStart => exact ⟨rfl, hB1⟩
      case round =>
        obtain ⟨rfl, hB1⟩ := hrel
        clear hB0
        have hB0 := hB1
        go_wp2
        go_loopw [11] (fun i wr => i = .int .i64 0 ∧ Below w.heap.size w wr) (fun i _ => 0)
        case atStart => exact ⟨rfl, hB1⟩
        case round =>
          obtain ⟨rfl, hB1⟩ := hrel
          clear hB0
          have hB0 := hB1
          go_wp2
          go_loopw [14] (fun i wr => i = .int .i64 0 ∧ Below w.heap.size w wr) (fun i _ => 0)
          case atStart => exact ⟨rfl, hB1⟩
          case round =>
            obtain ⟨rfl, hB1⟩ := hrel
            clear hB0
            go_wp2
            go_ret
            exact ⟨rfl, hB1⟩

end Go.Proofs.Ytegccicplcjcmaa
