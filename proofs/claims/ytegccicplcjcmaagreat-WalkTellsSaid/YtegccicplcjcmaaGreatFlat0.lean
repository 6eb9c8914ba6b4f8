/- Walks: every flat function of the kit says true of no lists. -/
import Derived.Test.YtegccicplcjcmaaGreatBase
import Derived.Test.YtegccicplcjcmaaGreatPairK
namespace Go.Proofs.YtegccicplcjcmaaGreat
open Go Go.RowKit Go.Shelf Go.Proofs
attribute [local go_sem] Oper.semAt_some

theorem mkLimbs (w : World) : (Instr.makeSlice 80 (.int .i64 0) (.int .i64 0)).run Tryz.prog w = .ok (.slice (some ⟨w.heap.size, 0, none⟩) 0 0) (w.alloc (.cells #[] 149)) := by kernel_rfl

set_option maxRecDepth 100000 in
set_option maxHeartbeats 4000000 in
theorem flatLimbs_nil (w : World) : Calls Tryz.prog 50 #[.slice none 0 0] w fun e w' => e = .returned (.bool true) ∧ Below w.heap.size w w' := by
  have hB0 := Below.refl w.heap.size w
  have hmk := mkLimbs
  go_enter Tryz.func50, Tryz.ntmps50
  go_wp2
  go_loopw [3] (fun i wr => i = .int .i64 0 ∧ Below w.heap.size w wr) (fun i _ => 0)
  case atStart => exact ⟨rfl, hB0⟩
  case round =>
    obtain ⟨rfl, hB1⟩ := hrel
    clear hB0
    have hB0 := hB1
    go_wp2
    go_loopw [6] (fun i wr => i = .int .i64 0 ∧ Below w.heap.size w wr) (fun i _ => 0)
    case atStart => exact ⟨rfl, hB0.alloc hB0.size _⟩
    case round =>
      obtain ⟨rfl, hB1⟩ := hrel
      clear hB0
      have hB0 := hB1
      go_wp2
      go_loopw [9] (fun i wr => i = .int .i64 0 ∧ Below w.heap.size w wr) (fun i _ => 0)
      case atStart => exact ⟨rfl, hB1⟩
      case round =>
        obtain ⟨rfl, hB1⟩ := hrel
        clear hB0
        have hB0 := hB1
        go_wp2
        go_loopw [11] (fun i wr => i = .int .i64 0 ∧ Below w.heap.size w wr) (fun i _ => 0)
        case atStart => exact ⟨rfl, hB1⟩
        case round =>
          obtain ⟨rfl, hB1⟩ := hrel
          clear hB0
          have hB0 := hB1
          go_wp2
          go_loopw [14] (fun i wr => i = .int .i64 0 ∧ Below w.heap.size w wr) (fun i _ => 0)
          case atStart => exact ⟨rfl, hB1⟩
          case round =>
            obtain ⟨rfl, hB1⟩ := hrel
            clear hB0
            go_wp2
            go_ret
            exact ⟨rfl, hB1⟩

theorem mkWords (w : World) : (Instr.makeSlice 81 (.int .i64 0) (.int .i64 0)).run Tryz.prog w = .ok (.slice (some ⟨w.heap.size, 0, none⟩) 0 0) (w.alloc (.cells #[] 151)) := by kernel_rfl

set_option maxRecDepth 100000 in
set_option maxHeartbeats 4000000 in
theorem flatWords_nil (w : World) : Calls Tryz.prog 51 #[.slice none 0 0] w fun e w' => e = .returned (.bool true) ∧ Below w.heap.size w w' := by
  have hB0 := Below.refl w.heap.size w
  have hmk := mkWords
  go_enter Tryz.func51, Tryz.ntmps51
  go_wp2
  go_loopw [3] (fun i wr => i = .int .i64 0 ∧ Below w.heap.size w wr) (fun i _ => 0)
  case atStart => exact ⟨rfl, hB0⟩
  case round =>
    obtain ⟨rfl, hB1⟩ := hrel
    clear hB0
    have hB0 := hB1
    go_wp2
    go_loopw [6] (fun i wr => i = .int .i64 0 ∧ Below w.heap.size w wr) (fun i _ => 0)
    case atStart => exact ⟨rfl, hB0.alloc hB0.size _⟩
    case round =>
      obtain ⟨rfl, hB1⟩ := hrel
      clear hB0
      have hB0 := hB1
      go_wp2
      go_loopw [9] (fun i wr => i = .int .i64 0 ∧ Below w.heap.size w wr) (fun i _ => 0)
      case atStart => exact ⟨rfl, hB1⟩
      case round =>
        obtain ⟨rfl, hB1⟩ := hrel
        clear hB0
        have hB0 := hB1
        go_wp2
        go_loopw [11] (fun i wr => i = .int .i64 0 ∧ Below w.heap.size w wr) (fun i _ => 0)
        case atStart => exact ⟨rfl, hB1⟩
        case round =>
          obtain ⟨rfl, hB1⟩ := hrel
          clear hB0
          have hB0 := hB1
          go_wp2
          go_loopw [14] (fun i wr => i = .int .i64 0 ∧ Below w.heap.size w wr) (fun i _ => 0)
          case atStart => exact ⟨rfl, hB1⟩
          case round =>
            obtain ⟨rfl, hB1⟩ := hrel
            clear hB0
            go_wp2
            go_ret
            exact ⟨rfl, hB1⟩

theorem mkInts (w : World) : (Instr.makeSlice 82 (.int .i64 0) (.int .i64 0)).run Tryz.prog w = .ok (.slice (some ⟨w.heap.size, 0, none⟩) 0 0) (w.alloc (.cells #[] 153)) := by kernel_rfl

set_option maxRecDepth 100000 in
set_option maxHeartbeats 4000000 in
theorem flatInts_nil (w : World) : Calls Tryz.prog 52 #[.slice none 0 0] w fun e w' => e = .returned (.bool true) ∧ Below w.heap.size w w' := by
  have hB0 := Below.refl w.heap.size w
  have hmk := mkInts
  go_enter Tryz.func52, Tryz.ntmps52
  go_wp2
  go_loopw [3] (fun i wr => i = .int .i64 0 ∧ Below w.heap.size w wr) (fun i _ => 0)
  case atStart => exact ⟨rfl, hB0⟩
  case round =>
    obtain ⟨rfl, hB1⟩ := hrel
    clear hB0
    have hB0 := hB1
    go_wp2
    go_loopw [6] (fun i wr => i = .int .i64 0 ∧ Below w.heap.size w wr) (fun i _ => 0)
    case atStart => exact ⟨rfl, hB0.alloc hB0.size _⟩
    case round =>
      obtain ⟨rfl, hB1⟩ := hrel
      clear hB0
      have hB0 := hB1
      go_wp2
      go_loopw [9] (fun i wr => i = .int .i64 0 ∧ Below w.heap.size w wr) (fun i _ => 0)
      case atStart => exact ⟨rfl, hB1⟩
      case round =>
        obtain ⟨rfl, hB1⟩ := hrel
        clear hB0
        have hB0 := hB1
        go_wp2
        go_loopw [11] (fun i wr => i = .int .i64 0 ∧ Below w.heap.size w wr) (fun i _ => 0)
        case atStart => exact ⟨rfl, hB1⟩
        case round =>
          obtain ⟨rfl, hB1⟩ := hrel
          clear hB0
          have hB0 := hB1
          go_wp2
          go_loopw [14] (fun i wr => i = .int .i64 0 ∧ Below w.heap.size w wr) (fun i _ => 0)
          case atStart => exact ⟨rfl, hB1⟩
          case round =>
            obtain ⟨rfl, hB1⟩ := hrel
            clear hB0
            go_wp2
            go_ret
            exact ⟨rfl, hB1⟩

theorem mkLongs (w : World) : (Instr.makeSlice 83 (.int .i64 0) (.int .i64 0)).run Tryz.prog w = .ok (.slice (some ⟨w.heap.size, 0, none⟩) 0 0) (w.alloc (.cells #[] 154)) := by kernel_rfl

set_option maxRecDepth 100000 in
set_option maxHeartbeats 4000000 in
theorem flatLongs_nil (w : World) : Calls Tryz.prog 53 #[.slice none 0 0] w fun e w' => e = .returned (.bool true) ∧ Below w.heap.size w w' := by
  have hB0 := Below.refl w.heap.size w
  have hmk := mkLongs
  go_enter Tryz.func53, Tryz.ntmps53
  go_wp2
  go_loopw [3] (fun i wr => i = .int .i64 0 ∧ Below w.heap.size w wr) (fun i _ => 0)
  case atStart => exact ⟨rfl, hB0⟩
  case round =>
    obtain ⟨rfl, hB1⟩ := hrel
    clear hB0
    have hB0 := hB1
    go_wp2
    go_loopw [6] (fun i wr => i = .int .i64 0 ∧ Below w.heap.size w wr) (fun i _ => 0)
    case atStart => exact ⟨rfl, hB0.alloc hB0.size _⟩
    case round =>
      obtain ⟨rfl, hB1⟩ := hrel
      clear hB0
      have hB0 := hB1
      go_wp2
      go_loopw [9] (fun i wr => i = .int .i64 0 ∧ Below w.heap.size w wr) (fun i _ => 0)
      case atStart => exact ⟨rfl, hB1⟩
      case round =>
        obtain ⟨rfl, hB1⟩ := hrel
        clear hB0
        have hB0 := hB1
        go_wp2
        go_loopw [11] (fun i wr => i = .int .i64 0 ∧ Below w.heap.size w wr) (fun i _ => 0)
        case atStart => exact ⟨rfl, hB1⟩
        case round =>
          obtain ⟨rfl, hB1⟩ := hrel
          clear hB0
          have hB0 := hB1
          go_wp2
          go_loopw [14] (fun i wr => i = .int .i64 0 ∧ Below w.heap.size w wr) (fun i _ => 0)
          case atStart => exact ⟨rfl, hB1⟩
          case round =>
            obtain ⟨rfl, hB1⟩ := hrel
            clear hB0
            go_wp2
            go_ret
            exact ⟨rfl, hB1⟩

theorem mkTexts (w : World) : (Instr.makeSlice 84 (.int .i64 0) (.int .i64 0)).run Tryz.prog w = .ok (.slice (some ⟨w.heap.size, 0, none⟩) 0 0) (w.alloc (.cells #[] 33)) := by kernel_rfl

set_option maxRecDepth 100000 in
set_option maxHeartbeats 4000000 in
theorem flatTexts_nil (w : World) : Calls Tryz.prog 54 #[.slice none 0 0] w fun e w' => e = .returned (.bool true) ∧ Below w.heap.size w w' := by
  have hB0 := Below.refl w.heap.size w
  have hmk := mkTexts
  go_enter Tryz.func54, Tryz.ntmps54
  go_wp2
  go_loopw [3] (fun i wr => i = .int .i64 0 ∧ Below w.heap.size w wr) (fun i _ => 0)
  case atStart => exact ⟨rfl, hB0⟩
  case round =>
    obtain ⟨rfl, hB1⟩ := hrel
    clear hB0
    have hB0 := hB1
    go_wp2
    go_loopw [6] (fun i wr => i = .int .i64 0 ∧ Below w.heap.size w wr) (fun i _ => 0)
    case atStart => exact ⟨rfl, hB0.alloc hB0.size _⟩
    case round =>
      obtain ⟨rfl, hB1⟩ := hrel
      clear hB0
      have hB0 := hB1
      go_wp2
      go_loopw [9] (fun i wr => i = .int .i64 0 ∧ Below w.heap.size w wr) (fun i _ => 0)
      case atStart => exact ⟨rfl, hB1⟩
      case round =>
        obtain ⟨rfl, hB1⟩ := hrel
        clear hB0
        have hB0 := hB1
        go_wp2
        go_loopw [11] (fun i wr => i = .int .i64 0 ∧ Below w.heap.size w wr) (fun i _ => 0)
        case atStart => exact ⟨rfl, hB1⟩
        case round =>
          obtain ⟨rfl, hB1⟩ := hrel
          clear hB0
          have hB0 := hB1
          go_wp2
          go_loopw [14] (fun i wr => i = .int .i64 0 ∧ Below w.heap.size w wr) (fun i _ => 0)
          case atStart => exact ⟨rfl, hB1⟩
          case round =>
            obtain ⟨rfl, hB1⟩ := hrel
            clear hB0
            go_wp2
            go_ret
            exact ⟨rfl, hB1⟩

theorem mkBytes (w : World) : (Instr.makeSlice 85 (.int .i64 0) (.int .i64 0)).run Tryz.prog w = .ok (.slice (some ⟨w.heap.size, 0, none⟩) 0 0) (w.alloc (.cells #[] 114)) := by kernel_rfl

set_option maxRecDepth 100000 in
set_option maxHeartbeats 4000000 in
theorem flatBytes_nil (w : World) : Calls Tryz.prog 55 #[.slice none 0 0] w fun e w' => e = .returned (.bool true) ∧ Below w.heap.size w w' := by
  have hB0 := Below.refl w.heap.size w
  have hmk := mkBytes
  go_enter Tryz.func55, Tryz.ntmps55
  go_wp2
  go_loopw [3] (fun i wr => i = .int .i64 0 ∧ Below w.heap.size w wr) (fun i _ => 0)
  case atStart => exact ⟨rfl, hB0⟩
  case round =>
    obtain ⟨rfl, hB1⟩ := hrel
    clear hB0
    have hB0 := hB1
    go_wp2
    go_loopw [6] (fun i wr => i = .int .i64 0 ∧ Below w.heap.size w wr) (fun i _ => 0)
    case atStart => exact ⟨rfl, hB0.alloc hB0.size _⟩
    case round =>
      obtain ⟨rfl, hB1⟩ := hrel
      clear hB0
      have hB0 := hB1
      go_wp2
      go_loopw [9] (fun i wr => i = .int .i64 0 ∧ Below w.heap.size w wr) (fun i _ => 0)
      case atStart => exact ⟨rfl, hB1⟩
      case round =>
        obtain ⟨rfl, hB1⟩ := hrel
        clear hB0
        have hB0 := hB1
        go_wp2
        go_loopw [11] (fun i wr => i = .int .i64 0 ∧ Below w.heap.size w wr) (fun i _ => 0)
        case atStart => exact ⟨rfl, hB1⟩
        case round =>
          obtain ⟨rfl, hB1⟩ := hrel
          clear hB0
          have hB0 := hB1
          go_wp2
          go_loopw [14] (fun i wr => i = .int .i64 0 ∧ Below w.heap.size w wr) (fun i _ => 0)
          case atStart => exact ⟨rfl, hB1⟩
          case round =>
            obtain ⟨rfl, hB1⟩ := hrel
            clear hB0
            go_wp2
            go_ret
            exact ⟨rfl, hB1⟩

theorem mkTruths (w : World) : (Instr.makeSlice 86 (.int .i64 0) (.int .i64 0)).run Tryz.prog w = .ok (.slice (some ⟨w.heap.size, 0, none⟩) 0 0) (w.alloc (.cells #[] 157)) := by kernel_rfl

set_option maxRecDepth 100000 in
set_option maxHeartbeats 4000000 in
theorem flatTruths_nil (w : World) : Calls Tryz.prog 56 #[.slice none 0 0] w fun e w' => e = .returned (.bool true) ∧ Below w.heap.size w w' := by
  have hB0 := Below.refl w.heap.size w
  have hmk := mkTruths
  go_enter Tryz.func56, Tryz.ntmps56
  go_wp2
  go_loopw [3] (fun i wr => i = .int .i64 0 ∧ Below w.heap.size w wr) (fun i _ => 0)
  case atStart => exact ⟨rfl, hB0⟩
  case round =>
    obtain ⟨rfl, hB1⟩ := hrel
    clear hB0
    have hB0 := hB1
    go_wp2
    go_loopw [6] (fun i wr => i = .int .i64 0 ∧ Below w.heap.size w wr) (fun i _ => 0)
    case atStart => exact ⟨rfl, hB0.alloc hB0.size _⟩
    case round =>
      obtain ⟨rfl, hB1⟩ := hrel
      clear hB0
      have hB0 := hB1
      go_wp2
      go_loopw [9] (fun i wr => i = .int .i64 0 ∧ Below w.heap.size w wr) (fun i _ => 0)
      case atStart => exact ⟨rfl, hB1⟩
      case round =>
        obtain ⟨rfl, hB1⟩ := hrel
        clear hB0
        have hB0 := hB1
        go_wp2
        go_loopw [11] (fun i wr => i = .int .i64 0 ∧ Below w.heap.size w wr) (fun i _ => 0)
        case atStart => exact ⟨rfl, hB1⟩
        case round =>
          obtain ⟨rfl, hB1⟩ := hrel
          clear hB0
          have hB0 := hB1
          go_wp2
          go_loopw [14] (fun i wr => i = .int .i64 0 ∧ Below w.heap.size w wr) (fun i _ => 0)
          case atStart => exact ⟨rfl, hB1⟩
          case round =>
            obtain ⟨rfl, hB1⟩ := hrel
            clear hB0
            go_wp2
            go_ret
            exact ⟨rfl, hB1⟩

theorem mkRefs (w : World) : (Instr.makeSlice 87 (.int .i64 0) (.int .i64 0)).run Tryz.prog w = .ok (.slice (some ⟨w.heap.size, 0, none⟩) 0 0) (w.alloc (.cells #[] 158)) := by kernel_rfl

set_option maxRecDepth 100000 in
set_option maxHeartbeats 4000000 in
theorem flatRefs_nil (w : World) : Calls Tryz.prog 57 #[.slice none 0 0] w fun e w' => e = .returned (.bool true) ∧ Below w.heap.size w w' := by
  have hB0 := Below.refl w.heap.size w
  have hmk := mkRefs
  go_enter Tryz.func57, Tryz.ntmps57
  go_wp2
  go_loopw [3] (fun i wr => i = .int .i64 0 ∧ Below w.heap.size w wr) (fun i _ => 0)
  case atStart => exact ⟨rfl, hB0⟩
  case round =>
    obtain ⟨rfl, hB1⟩ := hrel
    clear hB0
    have hB0 := hB1
    go_wp2
    go_loopw [6] (fun i wr => i = .int .i64 0 ∧ Below w.heap.size w wr) (fun i _ => 0)
    case atStart => exact ⟨rfl, hB0.alloc hB0.size _⟩
    case round =>
      obtain ⟨rfl, hB1⟩ := hrel
      clear hB0
      have hB0 := hB1
      go_wp2
      go_loopw [9] (fun i wr => i = .int .i64 0 ∧ Below w.heap.size w wr) (fun i _ => 0)
      case atStart => exact ⟨rfl, hB1⟩
      case round =>
        obtain ⟨rfl, hB1⟩ := hrel
        clear hB0
        have hB0 := hB1
        go_wp2
        go_loopw [11] (fun i wr => i = .int .i64 0 ∧ Below w.heap.size w wr) (fun i _ => 0)
        case atStart => exact ⟨rfl, hB1⟩
        case round =>
          obtain ⟨rfl, hB1⟩ := hrel
          clear hB0
          have hB0 := hB1
          go_wp2
          go_loopw [14] (fun i wr => i = .int .i64 0 ∧ Below w.heap.size w wr) (fun i _ => 0)
          case atStart => exact ⟨rfl, hB1⟩
          case round =>
            obtain ⟨rfl, hB1⟩ := hrel
            clear hB0
            go_wp2
            go_ret
            exact ⟨rfl, hB1⟩

theorem mkPairs (w : World) : (Instr.makeSlice 62 (.int .i64 0) (.int .i64 0)).run Tryz.prog w = .ok (.slice (some ⟨w.heap.size, 0, none⟩) 0 0) (w.alloc (.cells #[] 26)) := by kernel_rfl

set_option maxRecDepth 100000 in
set_option maxHeartbeats 4000000 in
theorem flatPairs_nil (w : World) : Calls Tryz.prog 58 #[.slice none 0 0] w fun e w' => e = .returned (.bool true) ∧ Below w.heap.size w w' := by
  have hB0 := Below.refl w.heap.size w
  have hmk := mkPairs
  go_enter Tryz.func58, Tryz.ntmps58
  go_wp2
  go_loopw [3] (fun i wr => i = .int .i64 0 ∧ Below w.heap.size w wr) (fun i _ => 0)
  case atStart => exact ⟨rfl, hB0⟩
  case round =>
    obtain ⟨rfl, hB1⟩ := hrel
    clear hB0
    have hB0 := hB1
    go_wp2
    go_loopw [6] (fun i wr => i = .int .i64 0 ∧ Below w.heap.size w wr) (fun i _ => 0)
    case atStart => exact ⟨rfl, hB0.alloc hB0.size _⟩
    case round =>
      obtain ⟨rfl, hB1⟩ := hrel
      clear hB0
      have hB0 := hB1
      go_wp2
      go_loopw [9] (fun i wr => i = .int .i64 0 ∧ Below w.heap.size w wr) (fun i _ => 0)
      case atStart => exact ⟨rfl, hB1⟩
      case round =>
        obtain ⟨rfl, hB1⟩ := hrel
        clear hB0
        have hB0 := hB1
        go_wp2
        go_loopw [11] (fun i wr => i = .int .i64 0 ∧ Below w.heap.size w wr) (fun i _ => 0)
        case atStart => exact ⟨rfl, hB1⟩
        case round =>
          obtain ⟨rfl, hB1⟩ := hrel
          clear hB0
          have hB0 := hB1
          go_wp2
          go_loopw [14] (fun i wr => i = .int .i64 0 ∧ Below w.heap.size w wr) (fun i _ => 0)
          case atStart => exact ⟨rfl, hB1⟩
          case round =>
            obtain ⟨rfl, hB1⟩ := hrel
            clear hB0
            go_wp2
            go_ret
            exact ⟨rfl, hB1⟩

theorem mkNodes (w : World) : (Instr.makeSlice 88 (.int .i64 0) (.int .i64 0)).run Tryz.prog w = .ok (.slice (some ⟨w.heap.size, 0, none⟩) 0 0) (w.alloc (.cells #[] 163)) := by kernel_rfl

set_option maxRecDepth 100000 in
set_option maxHeartbeats 4000000 in
theorem flatNodes_nil (w : World) : Calls Tryz.prog 59 #[.slice none 0 0] w fun e w' => e = .returned (.bool true) ∧ Below w.heap.size w w' := by
  have hB0 := Below.refl w.heap.size w
  have hmk := mkNodes
  go_enter Tryz.func59, Tryz.ntmps59
  go_wp2
  go_loopw [3] (fun i wr => i = .int .i64 0 ∧ Below w.heap.size w wr) (fun i _ => 0)
  case atStart => exact ⟨rfl, hB0⟩
  case round =>
    obtain ⟨rfl, hB1⟩ := hrel
    clear hB0
    have hB0 := hB1
    go_wp2
    go_loopw [6] (fun i wr => i = .int .i64 0 ∧ Below w.heap.size w wr) (fun i _ => 0)
    case atStart => exact ⟨rfl, hB0.alloc hB0.size _⟩
    case round =>
      obtain ⟨rfl, hB1⟩ := hrel
      clear hB0
      have hB0 := hB1
      go_wp2
      go_loopw [9] (fun i wr => i = .int .i64 0 ∧ Below w.heap.size w wr) (fun i _ => 0)
      case atStart => exact ⟨rfl, hB1⟩
      case round =>
        obtain ⟨rfl, hB1⟩ := hrel
        clear hB0
        have hB0 := hB1
        go_wp2
        go_loopw [11] (fun i wr => i = .int .i64 0 ∧ Below w.heap.size w wr) (fun i _ => 0)
        case atStart => exact ⟨rfl, hB1⟩
        case round =>
          obtain ⟨rfl, hB1⟩ := hrel
          clear hB0
          have hB0 := hB1
          go_wp2
          go_loopw [14] (fun i wr => i = .int .i64 0 ∧ Below w.heap.size w wr) (fun i _ => 0)
          case atStart => exact ⟨rfl, hB1⟩
          case round =>
            obtain ⟨rfl, hB1⟩ := hrel
            clear hB0
            go_wp2
            go_ret
            exact ⟨rfl, hB1⟩

theorem mkBounds (w : World) : (Instr.makeSlice 89 (.int .i64 0) (.int .i64 0)).run Tryz.prog w = .ok (.slice (some ⟨w.heap.size, 0, none⟩) 0 0) (w.alloc (.cells #[] 169)) := by kernel_rfl

set_option maxRecDepth 100000 in
set_option maxHeartbeats 4000000 in
theorem flatBounds_nil (w : World) : Calls Tryz.prog 60 #[.slice none 0 0] w fun e w' => e = .returned (.bool true) ∧ Below w.heap.size w w' := by
  have hB0 := Below.refl w.heap.size w
  have hmk := mkBounds
  go_enter Tryz.func60, Tryz.ntmps60
  go_wp2
  go_loopw [3] (fun i wr => i = .int .i64 0 ∧ Below w.heap.size w wr) (fun i _ => 0)
  case atStart => exact ⟨rfl, hB0⟩
  case round =>
    obtain ⟨rfl, hB1⟩ := hrel
    clear hB0
    have hB0 := hB1
    go_wp2
    go_loopw [6] (fun i wr => i = .int .i64 0 ∧ Below w.heap.size w wr) (fun i _ => 0)
    case atStart => exact ⟨rfl, hB0.alloc hB0.size _⟩
    case round =>
      obtain ⟨rfl, hB1⟩ := hrel
      clear hB0
      have hB0 := hB1
      go_wp2
      go_loopw [9] (fun i wr => i = .int .i64 0 ∧ Below w.heap.size w wr) (fun i _ => 0)
      case atStart => exact ⟨rfl, hB1⟩
      case round =>
        obtain ⟨rfl, hB1⟩ := hrel
        clear hB0
        have hB0 := hB1
        go_wp2
        go_loopw [11] (fun i wr => i = .int .i64 0 ∧ Below w.heap.size w wr) (fun i _ => 0)
        case atStart => exact ⟨rfl, hB1⟩
        case round =>
          obtain ⟨rfl, hB1⟩ := hrel
          clear hB0
          have hB0 := hB1
          go_wp2
          go_loopw [14] (fun i wr => i = .int .i64 0 ∧ Below w.heap.size w wr) (fun i _ => 0)
          case atStart => exact ⟨rfl, hB1⟩
          case round =>
            obtain ⟨rfl, hB1⟩ := hrel
            clear hB0
            go_wp2
            go_ret
            exact ⟨rfl, hB1⟩

theorem mkHandles (w : World) : (Instr.makeSlice 90 (.int .i64 0) (.int .i64 0)).run Tryz.prog w = .ok (.slice (some ⟨w.heap.size, 0, none⟩) 0 0) (w.alloc (.cells #[] 173)) := by kernel_rfl

set_option maxRecDepth 100000 in
set_option maxHeartbeats 4000000 in
theorem flatHandles_nil (w : World) : Calls Tryz.prog 61 #[.slice none 0 0] w fun e w' => e = .returned (.bool true) ∧ Below w.heap.size w w' := by
  have hB0 := Below.refl w.heap.size w
  have hmk := mkHandles
  go_enter Tryz.func61, Tryz.ntmps61
  go_wp2
  go_loopw [3] (fun i wr => i = .int .i64 0 ∧ Below w.heap.size w wr) (fun i _ => 0)
  case atStart => exact ⟨rfl, hB0⟩
  case round =>
    obtain ⟨rfl, hB1⟩ := hrel
    clear hB0
    have hB0 := hB1
    go_wp2
    go_loopw [6] (fun i wr => i = .int .i64 0 ∧ Below w.heap.size w wr) (fun i _ => 0)
    case atStart => exact ⟨rfl, hB0.alloc hB0.size _⟩
    case round =>
      obtain ⟨rfl, hB1⟩ := hrel
      clear hB0
      have hB0 := hB1
      go_wp2
      go_loopw [9] (fun i wr => i = .int .i64 0 ∧ Below w.heap.size w wr) (fun i _ => 0)
      case atStart => exact ⟨rfl, hB1⟩
      case round =>
        obtain ⟨rfl, hB1⟩ := hrel
        clear hB0
        have hB0 := hB1
        go_wp2
        go_loopw [11] (fun i wr => i = .int .i64 0 ∧ Below w.heap.size w wr) (fun i _ => 0)
        case atStart => exact ⟨rfl, hB1⟩
        case round =>
          obtain ⟨rfl, hB1⟩ := hrel
          clear hB0
          have hB0 := hB1
          go_wp2
          go_loopw [14] (fun i wr => i = .int .i64 0 ∧ Below w.heap.size w wr) (fun i _ => 0)
          case atStart => exact ⟨rfl, hB1⟩
          case round =>
            obtain ⟨rfl, hB1⟩ := hrel
            clear hB0
            go_wp2
            go_ret
            exact ⟨rfl, hB1⟩

theorem mkRequests (w : World) : (Instr.makeSlice 91 (.int .i64 0) (.int .i64 0)).run Tryz.prog w = .ok (.slice (some ⟨w.heap.size, 0, none⟩) 0 0) (w.alloc (.cells #[] 178)) := by kernel_rfl

set_option maxRecDepth 100000 in
set_option maxHeartbeats 4000000 in
theorem flatRequests_nil (w : World) : Calls Tryz.prog 62 #[.slice none 0 0] w fun e w' => e = .returned (.bool true) ∧ Below w.heap.size w w' := by
  have hB0 := Below.refl w.heap.size w
  have hmk := mkRequests
  go_enter Tryz.func62, Tryz.ntmps62
  go_wp2
  go_loopw [3] (fun i wr => i = .int .i64 0 ∧ Below w.heap.size w wr) (fun i _ => 0)
  case atStart => exact ⟨rfl, hB0⟩
  case round =>
    obtain ⟨rfl, hB1⟩ := hrel
    clear hB0
    have hB0 := hB1
    go_wp2
    go_loopw [6] (fun i wr => i = .int .i64 0 ∧ Below w.heap.size w wr) (fun i _ => 0)
    case atStart => exact ⟨rfl, hB0.alloc hB0.size _⟩
    case round =>
      obtain ⟨rfl, hB1⟩ := hrel
      clear hB0
      have hB0 := hB1
      go_wp2
      go_loopw [9] (fun i wr => i = .int .i64 0 ∧ Below w.heap.size w wr) (fun i _ => 0)
      case atStart => exact ⟨rfl, hB1⟩
      case round =>
        obtain ⟨rfl, hB1⟩ := hrel
        clear hB0
        have hB0 := hB1
        go_wp2
        go_loopw [11] (fun i wr => i = .int .i64 0 ∧ Below w.heap.size w wr) (fun i _ => 0)
        case atStart => exact ⟨rfl, hB1⟩
        case round =>
          obtain ⟨rfl, hB1⟩ := hrel
          clear hB0
          have hB0 := hB1
          go_wp2
          go_loopw [14] (fun i wr => i = .int .i64 0 ∧ Below w.heap.size w wr) (fun i _ => 0)
          case atStart => exact ⟨rfl, hB1⟩
          case round =>
            obtain ⟨rfl, hB1⟩ := hrel
            clear hB0
            go_wp2
            go_ret
            exact ⟨rfl, hB1⟩

theorem mkStats (w : World) : (Instr.makeSlice 92 (.int .i64 0) (.int .i64 0)).run Tryz.prog w = .ok (.slice (some ⟨w.heap.size, 0, none⟩) 0 0) (w.alloc (.cells #[] 183)) := by kernel_rfl

set_option maxRecDepth 100000 in
set_option maxHeartbeats 4000000 in
theorem flatStats_nil (w : World) : Calls Tryz.prog 63 #[.slice none 0 0] w fun e w' => e = .returned (.bool true) ∧ Below w.heap.size w w' := by
  have hB0 := Below.refl w.heap.size w
  have hmk := mkStats
  go_enter Tryz.func63, Tryz.ntmps63
  go_wp2
  go_loopw [3] (fun i wr => i = .int .i64 0 ∧ Below w.heap.size w wr) (fun i _ => 0)
  case atStart => exact ⟨rfl, hB0⟩
  case round =>
    obtain ⟨rfl, hB1⟩ := hrel
    clear hB0
    have hB0 := hB1
    go_wp2
    go_loopw [6] (fun i wr => i = .int .i64 0 ∧ Below w.heap.size w wr) (fun i _ => 0)
    case atStart => exact ⟨rfl, hB0.alloc hB0.size _⟩
    case round =>
      obtain ⟨rfl, hB1⟩ := hrel
      clear hB0
      have hB0 := hB1
      go_wp2
      go_loopw [9] (fun i wr => i = .int .i64 0 ∧ Below w.heap.size w wr) (fun i _ => 0)
      case atStart => exact ⟨rfl, hB1⟩
      case round =>
        obtain ⟨rfl, hB1⟩ := hrel
        clear hB0
        have hB0 := hB1
        go_wp2
        go_loopw [11] (fun i wr => i = .int .i64 0 ∧ Below w.heap.size w wr) (fun i _ => 0)
        case atStart => exact ⟨rfl, hB1⟩
        case round =>
          obtain ⟨rfl, hB1⟩ := hrel
          clear hB0
          have hB0 := hB1
          go_wp2
          go_loopw [14] (fun i wr => i = .int .i64 0 ∧ Below w.heap.size w wr) (fun i _ => 0)
          case atStart => exact ⟨rfl, hB1⟩
          case round =>
            obtain ⟨rfl, hB1⟩ := hrel
            clear hB0
            go_wp2
            go_ret
            exact ⟨rfl, hB1⟩

theorem mkAnswers (w : World) : (Instr.makeSlice 93 (.int .i64 0) (.int .i64 0)).run Tryz.prog w = .ok (.slice (some ⟨w.heap.size, 0, none⟩) 0 0) (w.alloc (.cells #[] 188)) := by kernel_rfl

set_option maxRecDepth 100000 in
set_option maxHeartbeats 4000000 in
theorem flatAnswers_nil (w : World) : Calls Tryz.prog 64 #[.slice none 0 0] w fun e w' => e = .returned (.bool true) ∧ Below w.heap.size w w' := by
  have hB0 := Below.refl w.heap.size w
  have hmk := mkAnswers
  go_enter Tryz.func64, Tryz.ntmps64
  go_wp2
  go_loopw [3] (fun i wr => i = .int .i64 0 ∧ Below w.heap.size w wr) (fun i _ => 0)
  case atStart => exact ⟨rfl, hB0⟩
  case round =>
    obtain ⟨rfl, hB1⟩ := hrel
    clear hB0
    have hB0 := hB1
    go_wp2
    go_loopw [6] (fun i wr => i = .int .i64 0 ∧ Below w.heap.size w wr) (fun i _ => 0)
    case atStart => exact ⟨rfl, hB0.alloc hB0.size _⟩
    case round =>
      obtain ⟨rfl, hB1⟩ := hrel
      clear hB0
      have hB0 := hB1
      go_wp2
      go_loopw [9] (fun i wr => i = .int .i64 0 ∧ Below w.heap.size w wr) (fun i _ => 0)
      case atStart => exact ⟨rfl, hB1⟩
      case round =>
        obtain ⟨rfl, hB1⟩ := hrel
        clear hB0
        have hB0 := hB1
        go_wp2
        go_loopw [11] (fun i wr => i = .int .i64 0 ∧ Below w.heap.size w wr) (fun i _ => 0)
        case atStart => exact ⟨rfl, hB1⟩
        case round =>
          obtain ⟨rfl, hB1⟩ := hrel
          clear hB0
          have hB0 := hB1
          go_wp2
          go_loopw [14] (fun i wr => i = .int .i64 0 ∧ Below w.heap.size w wr) (fun i _ => 0)
          case atStart => exact ⟨rfl, hB1⟩
          case round =>
            obtain ⟨rfl, hB1⟩ := hrel
            clear hB0
            go_wp2
            go_ret
            exact ⟨rfl, hB1⟩

theorem mkEntries (w : World) : (Instr.makeSlice 94 (.int .i64 0) (.int .i64 0)).run Tryz.prog w = .ok (.slice (some ⟨w.heap.size, 0, none⟩) 0 0) (w.alloc (.cells #[] 193)) := by kernel_rfl

set_option maxRecDepth 100000 in
set_option maxHeartbeats 4000000 in
theorem flatEntries_nil (w : World) : Calls Tryz.prog 65 #[.slice none 0 0] w fun e w' => e = .returned (.bool true) ∧ Below w.heap.size w w' := by
  have hB0 := Below.refl w.heap.size w
  have hmk := mkEntries
  go_enter Tryz.func65, Tryz.ntmps65
  go_wp2
  go_loopw [3] (fun i wr => i = .int .i64 0 ∧ Below w.heap.size w wr) (fun i _ => 0)
  case atStart => exact ⟨rfl, hB0⟩
  case round =>
    obtain ⟨rfl, hB1⟩ := hrel
    clear hB0
    have hB0 := hB1
    go_wp2
    go_loopw [6] (fun i wr => i = .int .i64 0 ∧ Below w.heap.size w wr) (fun i _ => 0)
    case atStart => exact ⟨rfl, hB0.alloc hB0.size _⟩
    case round =>
      obtain ⟨rfl, hB1⟩ := hrel
      clear hB0
      have hB0 := hB1
      go_wp2
      go_loopw [9] (fun i wr => i = .int .i64 0 ∧ Below w.heap.size w wr) (fun i _ => 0)
      case atStart => exact ⟨rfl, hB1⟩
      case round =>
        obtain ⟨rfl, hB1⟩ := hrel
        clear hB0
        have hB0 := hB1
        go_wp2
        go_loopw [11] (fun i wr => i = .int .i64 0 ∧ Below w.heap.size w wr) (fun i _ => 0)
        case atStart => exact ⟨rfl, hB1⟩
        case round =>
          obtain ⟨rfl, hB1⟩ := hrel
          clear hB0
          have hB0 := hB1
          go_wp2
          go_loopw [14] (fun i wr => i = .int .i64 0 ∧ Below w.heap.size w wr) (fun i _ => 0)
          case atStart => exact ⟨rfl, hB1⟩
          case round =>
            obtain ⟨rfl, hB1⟩ := hrel
            clear hB0
            go_wp2
            go_ret
            exact ⟨rfl, hB1⟩

theorem mkScripts (w : World) : (Instr.makeSlice 95 (.int .i64 0) (.int .i64 0)).run Tryz.prog w = .ok (.slice (some ⟨w.heap.size, 0, none⟩) 0 0) (w.alloc (.cells #[] 197)) := by kernel_rfl

set_option maxRecDepth 100000 in
set_option maxHeartbeats 4000000 in
theorem flatScripts_nil (w : World) : Calls Tryz.prog 66 #[.slice none 0 0] w fun e w' => e = .returned (.bool true) ∧ Below w.heap.size w w' := by
  have hB0 := Below.refl w.heap.size w
  have hmk := mkScripts
  go_enter Tryz.func66, Tryz.ntmps66
  go_wp2
  go_loopw [3] (fun i wr => i = .int .i64 0 ∧ Below w.heap.size w wr) (fun i _ => 0)
  case atStart => exact ⟨rfl, hB0⟩
  case round =>
    obtain ⟨rfl, hB1⟩ := hrel
    clear hB0
    have hB0 := hB1
    go_wp2
    go_loopw [6] (fun i wr => i = .int .i64 0 ∧ Below w.heap.size w wr) (fun i _ => 0)
    case atStart => exact ⟨rfl, hB0.alloc hB0.size _⟩
    case round =>
      obtain ⟨rfl, hB1⟩ := hrel
      clear hB0
      have hB0 := hB1
      go_wp2
      go_loopw [9] (fun i wr => i = .int .i64 0 ∧ Below w.heap.size w wr) (fun i _ => 0)
      case atStart => exact ⟨rfl, hB1⟩
      case round =>
        obtain ⟨rfl, hB1⟩ := hrel
        clear hB0
        have hB0 := hB1
        go_wp2
        go_loopw [11] (fun i wr => i = .int .i64 0 ∧ Below w.heap.size w wr) (fun i _ => 0)
        case atStart => exact ⟨rfl, hB1⟩
        case round =>
          obtain ⟨rfl, hB1⟩ := hrel
          clear hB0
          have hB0 := hB1
          go_wp2
          go_loopw [14] (fun i wr => i = .int .i64 0 ∧ Below w.heap.size w wr) (fun i _ => 0)
          case atStart => exact ⟨rfl, hB1⟩
          case round =>
            obtain ⟨rfl, hB1⟩ := hrel
            clear hB0
            go_wp2
            go_ret
            exact ⟨rfl, hB1⟩

theorem mkDones (w : World) : (Instr.makeSlice 96 (.int .i64 0) (.int .i64 0)).run Tryz.prog w = .ok (.slice (some ⟨w.heap.size, 0, none⟩) 0 0) (w.alloc (.cells #[] 202)) := by kernel_rfl

set_option maxRecDepth 100000 in
set_option maxHeartbeats 4000000 in
theorem flatDones_nil (w : World) : Calls Tryz.prog 67 #[.slice none 0 0] w fun e w' => e = .returned (.bool true) ∧ Below w.heap.size w w' := by
  have hB0 := Below.refl w.heap.size w
  have hmk := mkDones
  go_enter Tryz.func67, Tryz.ntmps67
  go_wp2
  go_loopw [3] (fun i wr => i = .int .i64 0 ∧ Below w.heap.size w wr) (fun i _ => 0)
  case atStart => exact ⟨rfl, hB0⟩
  case round =>
    obtain ⟨rfl, hB1⟩ := hrel
    clear hB0
    have hB0 := hB1
    go_wp2
    go_loopw [6] (fun i wr => i = .int .i64 0 ∧ Below w.heap.size w wr) (fun i _ => 0)
    case atStart => exact ⟨rfl, hB0.alloc hB0.size _⟩
    case round =>
      obtain ⟨rfl, hB1⟩ := hrel
      clear hB0
      have hB0 := hB1
      go_wp2
      go_loopw [9] (fun i wr => i = .int .i64 0 ∧ Below w.heap.size w wr) (fun i _ => 0)
      case atStart => exact ⟨rfl, hB1⟩
      case round =>
        obtain ⟨rfl, hB1⟩ := hrel
        clear hB0
        have hB0 := hB1
        go_wp2
        go_loopw [11] (fun i wr => i = .int .i64 0 ∧ Below w.heap.size w wr) (fun i _ => 0)
        case atStart => exact ⟨rfl, hB1⟩
        case round =>
          obtain ⟨rfl, hB1⟩ := hrel
          clear hB0
          have hB0 := hB1
          go_wp2
          go_loopw [14] (fun i wr => i = .int .i64 0 ∧ Below w.heap.size w wr) (fun i _ => 0)
          case atStart => exact ⟨rfl, hB1⟩
          case round =>
            obtain ⟨rfl, hB1⟩ := hrel
            clear hB0
            go_wp2
            go_ret
            exact ⟨rfl, hB1⟩

end Go.Proofs.YtegccicplcjcmaaGreat
