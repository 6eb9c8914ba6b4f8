/- Walks: every flat function of the kit says true of no lists. -/
import Derived.Test.YtgfhaldfjnepmaaBase
import Derived.Test.YtgfhaldfjnepmaaBk18
namespace Go.Proofs.Ytgfhaldfjnepmaa
open Go Go.RowKit Go.Shelf Go.Proofs
attribute [local go_sem] Oper.semAt_some

theorem mkLimbs (w : World) : (Instr.makeSlice 105 (.int .i64 0) (.int .i64 0)).run Try.prog w = .ok (.slice (some ⟨w.heap.size, 0, none⟩) 0 0) (w.alloc (.cells #[] 168)) := by kernel_rfl

set_option maxRecDepth 100000 in
set_option maxHeartbeats 4000000 in
theorem flatLimbs_nil (w : World) : Calls Try.prog 90 #[.slice none 0 0] w fun e w' => e = .returned (.bool true) ∧ Below w.heap.size w w' := by
  have hB0 := Below.refl w.heap.size w
  have hmk := mkLimbs
  go_enter Try.func90, Try.ntmps90
  go_wp2
  go_loopw [3] (fun i wr => i = .int .i64 0 ∧ Below w.heap.size w wr) (fun i _ => 0)
  case atStart => exact ⟨rfl, hB0⟩
  case round =>
    obtain ⟨rfl, hB1⟩ := hrel
    clear hB0
    have hB0 := hB1
    go_wp2
    go_loopw [6] (fun i wr => i = .int .i64 0 ∧ Below w.heap.size w wr) (fun i _ => 0)
    case atStart => exact ⟨rfl, hB0.alloc hB0.size _⟩
    case round =>
      obtain ⟨rfl, hB1⟩ := hrel
      clear hB0
      have hB0 := hB1
      go_wp2
      go_loopw [9] (fun i wr => i = .int .i64 0 ∧ Below w.heap.size w wr) (fun i _ => 0)
      case atStart => exact ⟨rfl, hB1⟩
      case round =>
        obtain ⟨rfl, hB1⟩ := hrel
        clear hB0
        have hB0 := hB1
        go_wp2
        go_loopw [11] (fun i wr => i = .int .i64 0 ∧ Below w.heap.size w wr) (fun i _ => 0)
        case atStart => exact ⟨rfl, hB1⟩
        case round =>
          obtain ⟨rfl, hB1⟩ := hrel
          clear hB0
          have hB0 := hB1
          go_wp2
          go_loopw [14] (fun i wr => i = .int .i64 0 ∧ Below w.heap.size w wr) (fun i _ => 0)
          case atStart => exact ⟨rfl, hB1⟩
          case round =>
            obtain ⟨rfl, hB1⟩ := hrel
            clear hB0
            go_wp2
            go_ret
            exact ⟨rfl, hB1⟩

theorem mkWords (w : World) : (Instr.makeSlice 106 (.int .i64 0) (.int .i64 0)).run Try.prog w = .ok (.slice (some ⟨w.heap.size, 0, none⟩) 0 0) (w.alloc (.cells #[] 170)) := by kernel_rfl

set_option maxRecDepth 100000 in
set_option maxHeartbeats 4000000 in
theorem flatWords_nil (w : World) : Calls Try.prog 91 #[.slice none 0 0] w fun e w' => e = .returned (.bool true) ∧ Below w.heap.size w w' := by
  have hB0 := Below.refl w.heap.size w
  have hmk := mkWords
  go_enter Try.func91, Try.ntmps91
  go_wp2
  go_loopw [3] (fun i wr => i = .int .i64 0 ∧ Below w.heap.size w wr) (fun i _ => 0)
  case atStart => exact ⟨rfl, hB0⟩
  case round =>
    obtain ⟨rfl, hB1⟩ := hrel
    clear hB0
    have hB0 := hB1
    go_wp2
    go_loopw [6] (fun i wr => i = .int .i64 0 ∧ Below w.heap.size w wr) (fun i _ => 0)
    case atStart => exact ⟨rfl, hB0.alloc hB0.size _⟩
    case round =>
      obtain ⟨rfl, hB1⟩ := hrel
      clear hB0
      have hB0 := hB1
      go_wp2
      go_loopw [9] (fun i wr => i = .int .i64 0 ∧ Below w.heap.size w wr) (fun i _ => 0)
      case atStart => exact ⟨rfl, hB1⟩
      case round =>
        obtain ⟨rfl, hB1⟩ := hrel
        clear hB0
        have hB0 := hB1
        go_wp2
        go_loopw [11] (fun i wr => i = .int .i64 0 ∧ Below w.heap.size w wr) (fun i _ => 0)
        case atStart => exact ⟨rfl, hB1⟩
        case round =>
          obtain ⟨rfl, hB1⟩ := hrel
          clear hB0
          have hB0 := hB1
          go_wp2
          go_loopw [14] (fun i wr => i = .int .i64 0 ∧ Below w.heap.size w wr) (fun i _ => 0)
          case atStart => exact ⟨rfl, hB1⟩
          case round =>
            obtain ⟨rfl, hB1⟩ := hrel
            clear hB0
            go_wp2
            go_ret
            exact ⟨rfl, hB1⟩

theorem mkInts (w : World) : (Instr.makeSlice 107 (.int .i64 0) (.int .i64 0)).run Try.prog w = .ok (.slice (some ⟨w.heap.size, 0, none⟩) 0 0) (w.alloc (.cells #[] 75)) := by kernel_rfl

set_option maxRecDepth 100000 in
set_option maxHeartbeats 4000000 in
theorem flatInts_nil (w : World) : Calls Try.prog 92 #[.slice none 0 0] w fun e w' => e = .returned (.bool true) ∧ Below w.heap.size w w' := by
  have hB0 := Below.refl w.heap.size w
  have hmk := mkInts
  go_enter Try.func92, Try.ntmps92
  go_wp2
  go_loopw [3] (fun i wr => i = .int .i64 0 ∧ Below w.heap.size w wr) (fun i _ => 0)
  case atStart => exact ⟨rfl, hB0⟩
  case round =>
    obtain ⟨rfl, hB1⟩ := hrel
    clear hB0
    have hB0 := hB1
    go_wp2
    go_loopw [6] (fun i wr => i = .int .i64 0 ∧ Below w.heap.size w wr) (fun i _ => 0)
    case atStart => exact ⟨rfl, hB0.alloc hB0.size _⟩
    case round =>
      obtain ⟨rfl, hB1⟩ := hrel
      clear hB0
      have hB0 := hB1
      go_wp2
      go_loopw [9] (fun i wr => i = .int .i64 0 ∧ Below w.heap.size w wr) (fun i _ => 0)
      case atStart => exact ⟨rfl, hB1⟩
      case round =>
        obtain ⟨rfl, hB1⟩ := hrel
        clear hB0
        have hB0 := hB1
        go_wp2
        go_loopw [11] (fun i wr => i = .int .i64 0 ∧ Below w.heap.size w wr) (fun i _ => 0)
        case atStart => exact ⟨rfl, hB1⟩
        case round =>
          obtain ⟨rfl, hB1⟩ := hrel
          clear hB0
          have hB0 := hB1
          go_wp2
          go_loopw [14] (fun i wr => i = .int .i64 0 ∧ Below w.heap.size w wr) (fun i _ => 0)
          case atStart => exact ⟨rfl, hB1⟩
          case round =>
            obtain ⟨rfl, hB1⟩ := hrel
            clear hB0
            go_wp2
            go_ret
            exact ⟨rfl, hB1⟩

theorem mkLongs (w : World) : (Instr.makeSlice 108 (.int .i64 0) (.int .i64 0)).run Try.prog w = .ok (.slice (some ⟨w.heap.size, 0, none⟩) 0 0) (w.alloc (.cells #[] 171)) := by kernel_rfl

set_option maxRecDepth 100000 in
set_option maxHeartbeats 4000000 in
theorem flatLongs_nil (w : World) : Calls Try.prog 93 #[.slice none 0 0] w fun e w' => e = .returned (.bool true) ∧ Below w.heap.size w w' := by
  have hB0 := Below.refl w.heap.size w
  have hmk := mkLongs
  go_enter Try.func93, Try.ntmps93
  go_wp2
  go_loopw [3] (fun i wr => i = .int .i64 0 ∧ Below w.heap.size w wr) (fun i _ => 0)
  case atStart => exact ⟨rfl, hB0⟩
  case round =>
    obtain ⟨rfl, hB1⟩ := hrel
    clear hB0
    have hB0 := hB1
    go_wp2
    go_loopw [6] (fun i wr => i = .int .i64 0 ∧ Below w.heap.size w wr) (fun i _ => 0)
    case atStart => exact ⟨rfl, hB0.alloc hB0.size _⟩
    case round =>
      obtain ⟨rfl, hB1⟩ := hrel
      clear hB0
      have hB0 := hB1
      go_wp2
      go_loopw [9] (fun i wr => i = .int .i64 0 ∧ Below w.heap.size w wr) (fun i _ => 0)
      case atStart => exact ⟨rfl, hB1⟩
      case round =>
        obtain ⟨rfl, hB1⟩ := hrel
        clear hB0
        have hB0 := hB1
        go_wp2
        go_loopw [11] (fun i wr => i = .int .i64 0 ∧ Below w.heap.size w wr) (fun i _ => 0)
        case atStart => exact ⟨rfl, hB1⟩
        case round =>
          obtain ⟨rfl, hB1⟩ := hrel
          clear hB0
          have hB0 := hB1
          go_wp2
          go_loopw [14] (fun i wr => i = .int .i64 0 ∧ Below w.heap.size w wr) (fun i _ => 0)
          case atStart => exact ⟨rfl, hB1⟩
          case round =>
            obtain ⟨rfl, hB1⟩ := hrel
            clear hB0
            go_wp2
            go_ret
            exact ⟨rfl, hB1⟩

theorem mkTexts (w : World) : (Instr.makeSlice 109 (.int .i64 0) (.int .i64 0)).run Try.prog w = .ok (.slice (some ⟨w.heap.size, 0, none⟩) 0 0) (w.alloc (.cells #[] 22)) := by kernel_rfl

set_option maxRecDepth 100000 in
set_option maxHeartbeats 4000000 in
theorem flatTexts_nil (w : World) : Calls Try.prog 94 #[.slice none 0 0] w fun e w' => e = .returned (.bool true) ∧ Below w.heap.size w w' := by
  have hB0 := Below.refl w.heap.size w
  have hmk := mkTexts
  go_enter Try.func94, Try.ntmps94
  go_wp2
  go_loopw [3] (fun i wr => i = .int .i64 0 ∧ Below w.heap.size w wr) (fun i _ => 0)
  case atStart => exact ⟨rfl, hB0⟩
  case round =>
    obtain ⟨rfl, hB1⟩ := hrel
    clear hB0
    have hB0 := hB1
    go_wp2
    go_loopw [6] (fun i wr => i = .int .i64 0 ∧ Below w.heap.size w wr) (fun i _ => 0)
    case atStart => exact ⟨rfl, hB0.alloc hB0.size _⟩
    case round =>
      obtain ⟨rfl, hB1⟩ := hrel
      clear hB0
      have hB0 := hB1
      go_wp2
      go_loopw [9] (fun i wr => i = .int .i64 0 ∧ Below w.heap.size w wr) (fun i _ => 0)
      case atStart => exact ⟨rfl, hB1⟩
      case round =>
        obtain ⟨rfl, hB1⟩ := hrel
        clear hB0
        have hB0 := hB1
        go_wp2
        go_loopw [11] (fun i wr => i = .int .i64 0 ∧ Below w.heap.size w wr) (fun i _ => 0)
        case atStart => exact ⟨rfl, hB1⟩
        case round =>
          obtain ⟨rfl, hB1⟩ := hrel
          clear hB0
          have hB0 := hB1
          go_wp2
          go_loopw [14] (fun i wr => i = .int .i64 0 ∧ Below w.heap.size w wr) (fun i _ => 0)
          case atStart => exact ⟨rfl, hB1⟩
          case round =>
            obtain ⟨rfl, hB1⟩ := hrel
            clear hB0
            go_wp2
            go_ret
            exact ⟨rfl, hB1⟩

theorem mkBytes (w : World) : (Instr.makeSlice 110 (.int .i64 0) (.int .i64 0)).run Try.prog w = .ok (.slice (some ⟨w.heap.size, 0, none⟩) 0 0) (w.alloc (.cells #[] 74)) := by kernel_rfl

set_option maxRecDepth 100000 in
set_option maxHeartbeats 4000000 in
theorem flatBytes_nil (w : World) : Calls Try.prog 95 #[.slice none 0 0] w fun e w' => e = .returned (.bool true) ∧ Below w.heap.size w w' := by
  have hB0 := Below.refl w.heap.size w
  have hmk := mkBytes
  go_enter Try.func95, Try.ntmps95
  go_wp2
  go_loopw [3] (fun i wr => i = .int .i64 0 ∧ Below w.heap.size w wr) (fun i _ => 0)
  case atStart => exact ⟨rfl, hB0⟩
  case round =>
    obtain ⟨rfl, hB1⟩ := hrel
    clear hB0
    have hB0 := hB1
    go_wp2
    go_loopw [6] (fun i wr => i = .int .i64 0 ∧ Below w.heap.size w wr) (fun i _ => 0)
    case atStart => exact ⟨rfl, hB0.alloc hB0.size _⟩
    case round =>
      obtain ⟨rfl, hB1⟩ := hrel
      clear hB0
      have hB0 := hB1
      go_wp2
      go_loopw [9] (fun i wr => i = .int .i64 0 ∧ Below w.heap.size w wr) (fun i _ => 0)
      case atStart => exact ⟨rfl, hB1⟩
      case round =>
        obtain ⟨rfl, hB1⟩ := hrel
        clear hB0
        have hB0 := hB1
        go_wp2
        go_loopw [11] (fun i wr => i = .int .i64 0 ∧ Below w.heap.size w wr) (fun i _ => 0)
        case atStart => exact ⟨rfl, hB1⟩
        case round =>
          obtain ⟨rfl, hB1⟩ := hrel
          clear hB0
          have hB0 := hB1
          go_wp2
          go_loopw [14] (fun i wr => i = .int .i64 0 ∧ Below w.heap.size w wr) (fun i _ => 0)
          case atStart => exact ⟨rfl, hB1⟩
          case round =>
            obtain ⟨rfl, hB1⟩ := hrel
            clear hB0
            go_wp2
            go_ret
            exact ⟨rfl, hB1⟩

theorem mkTruths (w : World) : (Instr.makeSlice 111 (.int .i64 0) (.int .i64 0)).run Try.prog w = .ok (.slice (some ⟨w.heap.size, 0, none⟩) 0 0) (w.alloc (.cells #[] 173)) := by kernel_rfl

set_option maxRecDepth 100000 in
set_option maxHeartbeats 4000000 in
theorem flatTruths_nil (w : World) : Calls Try.prog 96 #[.slice none 0 0] w fun e w' => e = .returned (.bool true) ∧ Below w.heap.size w w' := by
  have hB0 := Below.refl w.heap.size w
  have hmk := mkTruths
  go_enter Try.func96, Try.ntmps96
  go_wp2
  go_loopw [3] (fun i wr => i = .int .i64 0 ∧ Below w.heap.size w wr) (fun i _ => 0)
  case atStart => exact ⟨rfl, hB0⟩
  case round =>
    obtain ⟨rfl, hB1⟩ := hrel
    clear hB0
    have hB0 := hB1
    go_wp2
    go_loopw [6] (fun i wr => i = .int .i64 0 ∧ Below w.heap.size w wr) (fun i _ => 0)
    case atStart => exact ⟨rfl, hB0.alloc hB0.size _⟩
    case round =>
      obtain ⟨rfl, hB1⟩ := hrel
      clear hB0
      have hB0 := hB1
      go_wp2
      go_loopw [9] (fun i wr => i = .int .i64 0 ∧ Below w.heap.size w wr) (fun i _ => 0)
      case atStart => exact ⟨rfl, hB1⟩
      case round =>
        obtain ⟨rfl, hB1⟩ := hrel
        clear hB0
        have hB0 := hB1
        go_wp2
        go_loopw [11] (fun i wr => i = .int .i64 0 ∧ Below w.heap.size w wr) (fun i _ => 0)
        case atStart => exact ⟨rfl, hB1⟩
        case round =>
          obtain ⟨rfl, hB1⟩ := hrel
          clear hB0
          have hB0 := hB1
          go_wp2
          go_loopw [14] (fun i wr => i = .int .i64 0 ∧ Below w.heap.size w wr) (fun i _ => 0)
          case atStart => exact ⟨rfl, hB1⟩
          case round =>
            obtain ⟨rfl, hB1⟩ := hrel
            clear hB0
            go_wp2
            go_ret
            exact ⟨rfl, hB1⟩

theorem mkRefs (w : World) : (Instr.makeSlice 112 (.int .i64 0) (.int .i64 0)).run Try.prog w = .ok (.slice (some ⟨w.heap.size, 0, none⟩) 0 0) (w.alloc (.cells #[] 174)) := by kernel_rfl

set_option maxRecDepth 100000 in
set_option maxHeartbeats 4000000 in
theorem flatRefs_nil (w : World) : Calls Try.prog 97 #[.slice none 0 0] w fun e w' => e = .returned (.bool true) ∧ Below w.heap.size w w' := by
  have hB0 := Below.refl w.heap.size w
  have hmk := mkRefs
  go_enter Try.func97, Try.ntmps97
  go_wp2
  go_loopw [3] (fun i wr => i = .int .i64 0 ∧ Below w.heap.size w wr) (fun i _ => 0)
  case atStart => exact ⟨rfl, hB0⟩
  case round =>
    obtain ⟨rfl, hB1⟩ := hrel
    clear hB0
    have hB0 := hB1
    go_wp2
    go_loopw [6] (fun i wr => i = .int .i64 0 ∧ Below w.heap.size w wr) (fun i _ => 0)
    case atStart => exact ⟨rfl, hB0.alloc hB0.size _⟩
    case round =>
      obtain ⟨rfl, hB1⟩ := hrel
      clear hB0
      have hB0 := hB1
      go_wp2
      go_loopw [9] (fun i wr => i = .int .i64 0 ∧ Below w.heap.size w wr) (fun i _ => 0)
      case atStart => exact ⟨rfl, hB1⟩
      case round =>
        obtain ⟨rfl, hB1⟩ := hrel
        clear hB0
        have hB0 := hB1
        go_wp2
        go_loopw [11] (fun i wr => i = .int .i64 0 ∧ Below w.heap.size w wr) (fun i _ => 0)
        case atStart => exact ⟨rfl, hB1⟩
        case round =>
          obtain ⟨rfl, hB1⟩ := hrel
          clear hB0
          have hB0 := hB1
          go_wp2
          go_loopw [14] (fun i wr => i = .int .i64 0 ∧ Below w.heap.size w wr) (fun i _ => 0)
          case atStart => exact ⟨rfl, hB1⟩
          case round =>
            obtain ⟨rfl, hB1⟩ := hrel
            clear hB0
            go_wp2
            go_ret
            exact ⟨rfl, hB1⟩

theorem mkPairs (w : World) : (Instr.makeSlice 67 (.int .i64 0) (.int .i64 0)).run Try.prog w = .ok (.slice (some ⟨w.heap.size, 0, none⟩) 0 0) (w.alloc (.cells #[] 47)) := by kernel_rfl

set_option maxRecDepth 100000 in
set_option maxHeartbeats 4000000 in
theorem flatPairs_nil (w : World) : Calls Try.prog 98 #[.slice none 0 0] w fun e w' => e = .returned (.bool true) ∧ Below w.heap.size w w' := by
  have hB0 := Below.refl w.heap.size w
  have hmk := mkPairs
  go_enter Try.func98, Try.ntmps98
  go_wp2
  go_loopw [3] (fun i wr => i = .int .i64 0 ∧ Below w.heap.size w wr) (fun i _ => 0)
  case atStart => exact ⟨rfl, hB0⟩
  case round =>
    obtain ⟨rfl, hB1⟩ := hrel
    clear hB0
    have hB0 := hB1
    go_wp2
    go_loopw [6] (fun i wr => i = .int .i64 0 ∧ Below w.heap.size w wr) (fun i _ => 0)
    case atStart => exact ⟨rfl, hB0.alloc hB0.size _⟩
    case round =>
      obtain ⟨rfl, hB1⟩ := hrel
      clear hB0
      have hB0 := hB1
      go_wp2
      go_loopw [9] (fun i wr => i = .int .i64 0 ∧ Below w.heap.size w wr) (fun i _ => 0)
      case atStart => exact ⟨rfl, hB1⟩
      case round =>
        obtain ⟨rfl, hB1⟩ := hrel
        clear hB0
        have hB0 := hB1
        go_wp2
        go_loopw [11] (fun i wr => i = .int .i64 0 ∧ Below w.heap.size w wr) (fun i _ => 0)
        case atStart => exact ⟨rfl, hB1⟩
        case round =>
          obtain ⟨rfl, hB1⟩ := hrel
          clear hB0
          have hB0 := hB1
          go_wp2
          go_loopw [14] (fun i wr => i = .int .i64 0 ∧ Below w.heap.size w wr) (fun i _ => 0)
          case atStart => exact ⟨rfl, hB1⟩
          case round =>
            obtain ⟨rfl, hB1⟩ := hrel
            clear hB0
            go_wp2
            go_ret
            exact ⟨rfl, hB1⟩

theorem mkNodes (w : World) : (Instr.makeSlice 113 (.int .i64 0) (.int .i64 0)).run Try.prog w = .ok (.slice (some ⟨w.heap.size, 0, none⟩) 0 0) (w.alloc (.cells #[] 179)) := by kernel_rfl

set_option maxRecDepth 100000 in
set_option maxHeartbeats 4000000 in
theorem flatNodes_nil (w : World) : Calls Try.prog 99 #[.slice none 0 0] w fun e w' => e = .returned (.bool true) ∧ Below w.heap.size w w' := by
  have hB0 := Below.refl w.heap.size w
  have hmk := mkNodes
  go_enter Try.func99, Try.ntmps99
  go_wp2
  go_loopw [3] (fun i wr => i = .int .i64 0 ∧ Below w.heap.size w wr) (fun i _ => 0)
  case atStart => exact ⟨rfl, hB0⟩
  case round =>
    obtain ⟨rfl, hB1⟩ := hrel
    clear hB0
    have hB0 := hB1
    go_wp2
    go_loopw [6] (fun i wr => i = .int .i64 0 ∧ Below w.heap.size w wr) (fun i _ => 0)
    case atStart => exact ⟨rfl, hB0.alloc hB0.size _⟩
    case round =>
      obtain ⟨rfl, hB1⟩ := hrel
      clear hB0
      have hB0 := hB1
      go_wp2
      go_loopw [9] (fun i wr => i = .int .i64 0 ∧ Below w.heap.size w wr) (fun i _ => 0)
      case atStart => exact ⟨rfl, hB1⟩
      case round =>
        obtain ⟨rfl, hB1⟩ := hrel
        clear hB0
        have hB0 := hB1
        go_wp2
        go_loopw [11] (fun i wr => i = .int .i64 0 ∧ Below w.heap.size w wr) (fun i _ => 0)
        case atStart => exact ⟨rfl, hB1⟩
        case round =>
          obtain ⟨rfl, hB1⟩ := hrel
          clear hB0
          have hB0 := hB1
          go_wp2
          go_loopw [14] (fun i wr => i = .int .i64 0 ∧ Below w.heap.size w wr) (fun i _ => 0)
          case atStart => exact ⟨rfl, hB1⟩
          case round =>
            obtain ⟨rfl, hB1⟩ := hrel
            clear hB0
            go_wp2
            go_ret
            exact ⟨rfl, hB1⟩

theorem mkBounds (w : World) : (Instr.makeSlice 114 (.int .i64 0) (.int .i64 0)).run Try.prog w = .ok (.slice (some ⟨w.heap.size, 0, none⟩) 0 0) (w.alloc (.cells #[] 185)) := by kernel_rfl

set_option maxRecDepth 100000 in
set_option maxHeartbeats 4000000 in
theorem flatBounds_nil (w : World) : Calls Try.prog 100 #[.slice none 0 0] w fun e w' => e = .returned (.bool true) ∧ Below w.heap.size w w' := by
  have hB0 := Below.refl w.heap.size w
  have hmk := mkBounds
  go_enter Try.func100, Try.ntmps100
  go_wp2
  go_loopw [3] (fun i wr => i = .int .i64 0 ∧ Below w.heap.size w wr) (fun i _ => 0)
  case atStart => exact ⟨rfl, hB0⟩
  case round =>
    obtain ⟨rfl, hB1⟩ := hrel
    clear hB0
    have hB0 := hB1
    go_wp2
    go_loopw [6] (fun i wr => i = .int .i64 0 ∧ Below w.heap.size w wr) (fun i _ => 0)
    case atStart => exact ⟨rfl, hB0.alloc hB0.size _⟩
    case round =>
      obtain ⟨rfl, hB1⟩ := hrel
      clear hB0
      have hB0 := hB1
      go_wp2
      go_loopw [9] (fun i wr => i = .int .i64 0 ∧ Below w.heap.size w wr) (fun i _ => 0)
      case atStart => exact ⟨rfl, hB1⟩
      case round =>
        obtain ⟨rfl, hB1⟩ := hrel
        clear hB0
        have hB0 := hB1
        go_wp2
        go_loopw [11] (fun i wr => i = .int .i64 0 ∧ Below w.heap.size w wr) (fun i _ => 0)
        case atStart => exact ⟨rfl, hB1⟩
        case round =>
          obtain ⟨rfl, hB1⟩ := hrel
          clear hB0
          have hB0 := hB1
          go_wp2
          go_loopw [14] (fun i wr => i = .int .i64 0 ∧ Below w.heap.size w wr) (fun i _ => 0)
          case atStart => exact ⟨rfl, hB1⟩
          case round =>
            obtain ⟨rfl, hB1⟩ := hrel
            clear hB0
            go_wp2
            go_ret
            exact ⟨rfl, hB1⟩

theorem mkHandles (w : World) : (Instr.makeSlice 115 (.int .i64 0) (.int .i64 0)).run Try.prog w = .ok (.slice (some ⟨w.heap.size, 0, none⟩) 0 0) (w.alloc (.cells #[] 187)) := by kernel_rfl

set_option maxRecDepth 100000 in
set_option maxHeartbeats 4000000 in
theorem flatHandles_nil (w : World) : Calls Try.prog 101 #[.slice none 0 0] w fun e w' => e = .returned (.bool true) ∧ Below w.heap.size w w' := by
  have hB0 := Below.refl w.heap.size w
  have hmk := mkHandles
  go_enter Try.func101, Try.ntmps101
  go_wp2
  go_loopw [3] (fun i wr => i = .int .i64 0 ∧ Below w.heap.size w wr) (fun i _ => 0)
  case atStart => exact ⟨rfl, hB0⟩
  case round =>
    obtain ⟨rfl, hB1⟩ := hrel
    clear hB0
    have hB0 := hB1
    go_wp2
    go_loopw [6] (fun i wr => i = .int .i64 0 ∧ Below w.heap.size w wr) (fun i _ => 0)
    case atStart => exact ⟨rfl, hB0.alloc hB0.size _⟩
    case round =>
      obtain ⟨rfl, hB1⟩ := hrel
      clear hB0
      have hB0 := hB1
      go_wp2
      go_loopw [9] (fun i wr => i = .int .i64 0 ∧ Below w.heap.size w wr) (fun i _ => 0)
      case atStart => exact ⟨rfl, hB1⟩
      case round =>
        obtain ⟨rfl, hB1⟩ := hrel
        clear hB0
        have hB0 := hB1
        go_wp2
        go_loopw [11] (fun i wr => i = .int .i64 0 ∧ Below w.heap.size w wr) (fun i _ => 0)
        case atStart => exact ⟨rfl, hB1⟩
        case round =>
          obtain ⟨rfl, hB1⟩ := hrel
          clear hB0
          have hB0 := hB1
          go_wp2
          go_loopw [14] (fun i wr => i = .int .i64 0 ∧ Below w.heap.size w wr) (fun i _ => 0)
          case atStart => exact ⟨rfl, hB1⟩
          case round =>
            obtain ⟨rfl, hB1⟩ := hrel
            clear hB0
            go_wp2
            go_ret
            exact ⟨rfl, hB1⟩

theorem mkRequests (w : World) : (Instr.makeSlice 116 (.int .i64 0) (.int .i64 0)).run Try.prog w = .ok (.slice (some ⟨w.heap.size, 0, none⟩) 0 0) (w.alloc (.cells #[] 192)) := by kernel_rfl

set_option maxRecDepth 100000 in
set_option maxHeartbeats 4000000 in
theorem flatRequests_nil (w : World) : Calls Try.prog 102 #[.slice none 0 0] w fun e w' => e = .returned (.bool true) ∧ Below w.heap.size w w' := by
  have hB0 := Below.refl w.heap.size w
  have hmk := mkRequests
  go_enter Try.func102, Try.ntmps102
  go_wp2
  go_loopw [3] (fun i wr => i = .int .i64 0 ∧ Below w.heap.size w wr) (fun i _ => 0)
  case atStart => exact ⟨rfl, hB0⟩
  case round =>
    obtain ⟨rfl, hB1⟩ := hrel
    clear hB0
    have hB0 := hB1
    go_wp2
    go_loopw [6] (fun i wr => i = .int .i64 0 ∧ Below w.heap.size w wr) (fun i _ => 0)
    case atStart => exact ⟨rfl, hB0.alloc hB0.size _⟩
    case round =>
      obtain ⟨rfl, hB1⟩ := hrel
      clear hB0
      have hB0 := hB1
      go_wp2
      go_loopw [9] (fun i wr => i = .int .i64 0 ∧ Below w.heap.size w wr) (fun i _ => 0)
      case atStart => exact ⟨rfl, hB1⟩
      case round =>
        obtain ⟨rfl, hB1⟩ := hrel
        clear hB0
        have hB0 := hB1
        go_wp2
        go_loopw [11] (fun i wr => i = .int .i64 0 ∧ Below w.heap.size w wr) (fun i _ => 0)
        case atStart => exact ⟨rfl, hB1⟩
        case round =>
          obtain ⟨rfl, hB1⟩ := hrel
          clear hB0
          have hB0 := hB1
          go_wp2
          go_loopw [14] (fun i wr => i = .int .i64 0 ∧ Below w.heap.size w wr) (fun i _ => 0)
          case atStart => exact ⟨rfl, hB1⟩
          case round =>
            obtain ⟨rfl, hB1⟩ := hrel
            clear hB0
            go_wp2
            go_ret
            exact ⟨rfl, hB1⟩

theorem mkStats (w : World) : (Instr.makeSlice 117 (.int .i64 0) (.int .i64 0)).run Try.prog w = .ok (.slice (some ⟨w.heap.size, 0, none⟩) 0 0) (w.alloc (.cells #[] 197)) := by kernel_rfl

set_option maxRecDepth 100000 in
set_option maxHeartbeats 4000000 in
theorem flatStats_nil (w : World) : Calls Try.prog 103 #[.slice none 0 0] w fun e w' => e = .returned (.bool true) ∧ Below w.heap.size w w' := by
  have hB0 := Below.refl w.heap.size w
  have hmk := mkStats
  go_enter Try.func103, Try.ntmps103
  go_wp2
  go_loopw [3] (fun i wr => i = .int .i64 0 ∧ Below w.heap.size w wr) (fun i _ => 0)
  case atStart => exact ⟨rfl, hB0⟩
  case round =>
    obtain ⟨rfl, hB1⟩ := hrel
    clear hB0
    have hB0 := hB1
    go_wp2
    go_loopw [6] (fun i wr => i = .int .i64 0 ∧ Below w.heap.size w wr) (fun i _ => 0)
    case atStart => exact ⟨rfl, hB0.alloc hB0.size _⟩
    case round =>
      obtain ⟨rfl, hB1⟩ := hrel
      clear hB0
      have hB0 := hB1
      go_wp2
      go_loopw [9] (fun i wr => i = .int .i64 0 ∧ Below w.heap.size w wr) (fun i _ => 0)
      case atStart => exact ⟨rfl, hB1⟩
      case round =>
        obtain ⟨rfl, hB1⟩ := hrel
        clear hB0
        have hB0 := hB1
        go_wp2
        go_loopw [11] (fun i wr => i = .int .i64 0 ∧ Below w.heap.size w wr) (fun i _ => 0)
        case atStart => exact ⟨rfl, hB1⟩
        case round =>
          obtain ⟨rfl, hB1⟩ := hrel
          clear hB0
          have hB0 := hB1
          go_wp2
          go_loopw [14] (fun i wr => i = .int .i64 0 ∧ Below w.heap.size w wr) (fun i _ => 0)
          case atStart => exact ⟨rfl, hB1⟩
          case round =>
            obtain ⟨rfl, hB1⟩ := hrel
            clear hB0
            go_wp2
            go_ret
            exact ⟨rfl, hB1⟩

theorem mkAnswers (w : World) : (Instr.makeSlice 118 (.int .i64 0) (.int .i64 0)).run Try.prog w = .ok (.slice (some ⟨w.heap.size, 0, none⟩) 0 0) (w.alloc (.cells #[] 202)) := by kernel_rfl

set_option maxRecDepth 100000 in
set_option maxHeartbeats 4000000 in
theorem flatAnswers_nil (w : World) : Calls Try.prog 104 #[.slice none 0 0] w fun e w' => e = .returned (.bool true) ∧ Below w.heap.size w w' := by
  have hB0 := Below.refl w.heap.size w
  have hmk := mkAnswers
  go_enter Try.func104, Try.ntmps104
  go_wp2
  go_loopw [3] (fun i wr => i = .int .i64 0 ∧ Below w.heap.size w wr) (fun i _ => 0)
  case atStart => exact ⟨rfl, hB0⟩
  case round =>
    obtain ⟨rfl, hB1⟩ := hrel
    clear hB0
    have hB0 := hB1
    go_wp2
    go_loopw [6] (fun i wr => i = .int .i64 0 ∧ Below w.heap.size w wr) (fun i _ => 0)
    case atStart => exact ⟨rfl, hB0.alloc hB0.size _⟩
    case round =>
      obtain ⟨rfl, hB1⟩ := hrel
      clear hB0
      have hB0 := hB1
      go_wp2
      go_loopw [9] (fun i wr => i = .int .i64 0 ∧ Below w.heap.size w wr) (fun i _ => 0)
      case atStart => exact ⟨rfl, hB1⟩
      case round =>
        obtain ⟨rfl, hB1⟩ := hrel
        clear hB0
        have hB0 := hB1
        go_wp2
        go_loopw [11] (fun i wr => i = .int .i64 0 ∧ Below w.heap.size w wr) (fun i _ => 0)
        case atStart => exact ⟨rfl, hB1⟩
        case round =>
          obtain ⟨rfl, hB1⟩ := hrel
          clear hB0
          have hB0 := hB1
          go_wp2
          go_loopw [14] (fun i wr => i = .int .i64 0 ∧ Below w.heap.size w wr) (fun i _ => 0)
          case atStart => exact ⟨rfl, hB1⟩
          case round =>
            obtain ⟨rfl, hB1⟩ := hrel
            clear hB0
            go_wp2
            go_ret
            exact ⟨rfl, hB1⟩

theorem mkEntries (w : World) : (Instr.makeSlice 119 (.int .i64 0) (.int .i64 0)).run Try.prog w = .ok (.slice (some ⟨w.heap.size, 0, none⟩) 0 0) (w.alloc (.cells #[] 207)) := by kernel_rfl

set_option maxRecDepth 100000 in
set_option maxHeartbeats 4000000 in
theorem flatEntries_nil (w : World) : Calls Try.prog 105 #[.slice none 0 0] w fun e w' => e = .returned (.bool true) ∧ Below w.heap.size w w' := by
  have hB0 := Below.refl w.heap.size w
  have hmk := mkEntries
  go_enter Try.func105, Try.ntmps105
  go_wp2
  go_loopw [3] (fun i wr => i = .int .i64 0 ∧ Below w.heap.size w wr) (fun i _ => 0)
  case atStart => exact ⟨rfl, hB0⟩
  case round =>
    obtain ⟨rfl, hB1⟩ := hrel
    clear hB0
    have hB0 := hB1
    go_wp2
    go_loopw [6] (fun i wr => i = .int .i64 0 ∧ Below w.heap.size w wr) (fun i _ => 0)
    case atStart => exact ⟨rfl, hB0.alloc hB0.size _⟩
    case round =>
      obtain ⟨rfl, hB1⟩ := hrel
      clear hB0
      have hB0 := hB1
      go_wp2
      go_loopw [9] (fun i wr => i = .int .i64 0 ∧ Below w.heap.size w wr) (fun i _ => 0)
      case atStart => exact ⟨rfl, hB1⟩
      case round =>
        obtain ⟨rfl, hB1⟩ := hrel
        clear hB0
        have hB0 := hB1
        go_wp2
        go_loopw [11] (fun i wr => i = .int .i64 0 ∧ Below w.heap.size w wr) (fun i _ => 0)
        case atStart => exact ⟨rfl, hB1⟩
        case round =>
          obtain ⟨rfl, hB1⟩ := hrel
          clear hB0
          have hB0 := hB1
          go_wp2
          go_loopw [14] (fun i wr => i = .int .i64 0 ∧ Below w.heap.size w wr) (fun i _ => 0)
          case atStart => exact ⟨rfl, hB1⟩
          case round =>
            obtain ⟨rfl, hB1⟩ := hrel
            clear hB0
            go_wp2
            go_ret
            exact ⟨rfl, hB1⟩

theorem mkScripts (w : World) : (Instr.makeSlice 120 (.int .i64 0) (.int .i64 0)).run Try.prog w = .ok (.slice (some ⟨w.heap.size, 0, none⟩) 0 0) (w.alloc (.cells #[] 211)) := by kernel_rfl

set_option maxRecDepth 100000 in
set_option maxHeartbeats 4000000 in
theorem flatScripts_nil (w : World) : Calls Try.prog 106 #[.slice none 0 0] w fun e w' => e = .returned (.bool true) ∧ Below w.heap.size w w' := by
  have hB0 := Below.refl w.heap.size w
  have hmk := mkScripts
  go_enter Try.func106, Try.ntmps106
  go_wp2
  go_loopw [3] (fun i wr => i = .int .i64 0 ∧ Below w.heap.size w wr) (fun i _ => 0)
  case atStart => exact ⟨rfl, hB0⟩
  case round =>
    obtain ⟨rfl, hB1⟩ := hrel
    clear hB0
    have hB0 := hB1
    go_wp2
    go_loopw [6] (fun i wr => i = .int .i64 0 ∧ Below w.heap.size w wr) (fun i _ => 0)
    case atStart => exact ⟨rfl, hB0.alloc hB0.size _⟩
    case round =>
      obtain ⟨rfl, hB1⟩ := hrel
      clear hB0
      have hB0 := hB1
      go_wp2
      go_loopw [9] (fun i wr => i = .int .i64 0 ∧ Below w.heap.size w wr) (fun i _ => 0)
      case atStart => exact ⟨rfl, hB1⟩
      case round =>
        obtain ⟨rfl, hB1⟩ := hrel
        clear hB0
        have hB0 := hB1
        go_wp2
        go_loopw [11] (fun i wr => i = .int .i64 0 ∧ Below w.heap.size w wr) (fun i _ => 0)
        case atStart => exact ⟨rfl, hB1⟩
        case round =>
          obtain ⟨rfl, hB1⟩ := hrel
          clear hB0
          have hB0 := hB1
          go_wp2
          go_loopw [14] (fun i wr => i = .int .i64 0 ∧ Below w.heap.size w wr) (fun i _ => 0)
          case atStart => exact ⟨rfl, hB1⟩
          case round =>
            obtain ⟨rfl, hB1⟩ := hrel
            clear hB0
            go_wp2
            go_ret
            exact ⟨rfl, hB1⟩

theorem mkDones (w : World) : (Instr.makeSlice 121 (.int .i64 0) (.int .i64 0)).run Try.prog w = .ok (.slice (some ⟨w.heap.size, 0, none⟩) 0 0) (w.alloc (.cells #[] 216)) := by kernel_rfl

set_option maxRecDepth 100000 in
set_option maxHeartbeats 4000000 in
theorem flatDones_nil (w : World) : Calls Try.prog 107 #[.slice none 0 0] w fun e w' => e = .returned (.bool true) ∧ Below w.heap.size w w' := by
  have hB0 := Below.refl w.heap.size w
  have hmk := mkDones
  go_enter Try.func107, Try.ntmps107
  go_wp2
  go_loopw [3] (fun i wr => i = .int .i64 0 ∧ Below w.heap.size w wr) (fun i _ => 0)
  case atStart => exact ⟨rfl, hB0⟩
  case round =>
    obtain ⟨rfl, hB1⟩ := hrel
    clear hB0
    have hB0 := hB1
    go_wp2
    go_loopw [6] (fun i wr => i = .int .i64 0 ∧ Below w.heap.size w wr) (fun i _ => 0)
    case atStart => exact ⟨rfl, hB0.alloc hB0.size _⟩
    case round =>
      obtain ⟨rfl, hB1⟩ := hrel
      clear hB0
      have hB0 := hB1
      go_wp2
      go_loopw [9] (fun i wr => i = .int .i64 0 ∧ Below w.heap.size w wr) (fun i _ => 0)
      case atStart => exact ⟨rfl, hB1⟩
      case round =>
        obtain ⟨rfl, hB1⟩ := hrel
        clear hB0
        have hB0 := hB1
        go_wp2
        go_loopw [11] (fun i wr => i = .int .i64 0 ∧ Below w.heap.size w wr) (fun i _ => 0)
        case atStart => exact ⟨rfl, hB1⟩
        case round =>
          obtain ⟨rfl, hB1⟩ := hrel
          clear hB0
          have hB0 := hB1
          go_wp2
          go_loopw [14] (fun i wr => i = .int .i64 0 ∧ Below w.heap.size w wr) (fun i _ => 0)
          case atStart => exact ⟨rfl, hB1⟩
          case round =>
            obtain ⟨rfl, hB1⟩ := hrel
            clear hB0
            go_wp2
            go_ret
            exact ⟨rfl, hB1⟩

end Go.Proofs.Ytgfhaldfjnepmaa
