/-
  Flats
-/
import Derived.Test.YtjichaeegheacaaGreatDoorFT9

/-
  intarsiakit: the compares of apart.go where nothing was put: they answer true.
-/
namespace Go.Proofs.YtjichaeegheacaaGreatDoor
open Go Go.RowKit

theorem below_grown1 {B : Nat} {w0 w w' : World} (h : Below B w0 w) (hg : w.grownBy w' none) (hB : B ≤ w.heap.size) : Below B w0 w' := h.grown hg hB (fun k e => by cases e)

theorem infoLimbs : (Tryz.prog.info? 140).map (fun i => (i.zero, i.size, i.bytes)) = some (some (.slice none 0 0), 1, 24) := by kernel_rfl
set_option maxRecDepth 100000 in
set_option maxHeartbeats 2000000 in
theorem flatLimbs_nil (w : World) : Calls Tryz.prog 89 #[.slice none 0 0] w (Fresh w (.bool true)) := by
  obtain ⟨i0, hi, hz0, hz1, hz2⟩ := info_parts infoLimbs
  have hd : decide ((0 : Int) < 0) = false := by decide
  go_enter Tryz.func89, Tryz.ntmps89
  go_wp2
  change Code.wp _ _ _ (Act.mk _ _) _
  go_loopw [3] (fun v W => v = .int .i64 0 ∧ W = w) (fun _ _ => 0)
  case atStart => exact ⟨rfl, rfl⟩
  case round =>
    obtain ⟨rfl, rfl⟩ := hrel
    go_wp2_with (refine wpList_make_full _ rfl _ _ 83 rfl wr.heap.size 140 i0 (.slice none 0 0) 1 Tryz.underlying83 hi hz0 hz1 _ _ _ _ 0 rfl rfl rfl rfl (by omega) (by unfold maxLen; omega) (Nat.le_refl _) ?_; intro W1 hown1 hgr1)
    have hB := below_grown1 (Below.refl wr.heap.size wr) hgr1 (Nat.le_refl _)
    clear hown1 hgr1
    change Code.wp _ _ _ (Act.mk _ _) _
    go_loopw [6] (fun v W => v = .int .i64 0 ∧ W = W1) (fun _ _ => 0)
    case atStart => exact ⟨rfl, rfl⟩
    case round =>
      obtain ⟨rfl, rfl⟩ := hrel
      go_wp2
      change Code.wp _ _ _ (Act.mk _ _) _
      go_loopw [9] (fun v W => v = .int .i64 0 ∧ W = wr) (fun _ _ => 0)
      case atStart => exact ⟨rfl, rfl⟩
      case round =>
        obtain ⟨rfl, rfl⟩ := hrel
        go_wp2
        change Code.wp _ _ _ (Act.mk _ _) _
        go_loopw [11] (fun v W => v = .int .i64 0 ∧ W = wr) (fun _ _ => 0)
        case atStart => exact ⟨rfl, rfl⟩
        case round =>
          obtain ⟨rfl, rfl⟩ := hrel
          go_wp2
          change Code.wp _ _ _ (Act.mk _ _) _
          go_loopw [14] (fun v W => v = .int .i64 0 ∧ W = wr) (fun _ _ => 0)
          case atStart => exact ⟨rfl, rfl⟩
          case round =>
            obtain ⟨rfl, rfl⟩ := hrel
            go_wp2
            go_ret
            exact ⟨rfl, hB⟩

theorem infoWords : (Tryz.prog.info? 142).map (fun i => (i.zero, i.size, i.bytes)) = some (some (.slice none 0 0), 1, 24) := by kernel_rfl
set_option maxRecDepth 100000 in
set_option maxHeartbeats 2000000 in
theorem flatWords_nil (w : World) : Calls Tryz.prog 90 #[.slice none 0 0] w (Fresh w (.bool true)) := by
  obtain ⟨i0, hi, hz0, hz1, hz2⟩ := info_parts infoWords
  have hd : decide ((0 : Int) < 0) = false := by decide
  go_enter Tryz.func90, Tryz.ntmps90
  go_wp2
  change Code.wp _ _ _ (Act.mk _ _) _
  go_loopw [3] (fun v W => v = .int .i64 0 ∧ W = w) (fun _ _ => 0)
  case atStart => exact ⟨rfl, rfl⟩
  case round =>
    obtain ⟨rfl, rfl⟩ := hrel
    go_wp2_with (refine wpList_make_full _ rfl _ _ 84 rfl wr.heap.size 142 i0 (.slice none 0 0) 1 Tryz.underlying84 hi hz0 hz1 _ _ _ _ 0 rfl rfl rfl rfl (by omega) (by unfold maxLen; omega) (Nat.le_refl _) ?_; intro W1 hown1 hgr1)
    have hB := below_grown1 (Below.refl wr.heap.size wr) hgr1 (Nat.le_refl _)
    clear hown1 hgr1
    change Code.wp _ _ _ (Act.mk _ _) _
    go_loopw [6] (fun v W => v = .int .i64 0 ∧ W = W1) (fun _ _ => 0)
    case atStart => exact ⟨rfl, rfl⟩
    case round =>
      obtain ⟨rfl, rfl⟩ := hrel
      go_wp2
      change Code.wp _ _ _ (Act.mk _ _) _
      go_loopw [9] (fun v W => v = .int .i64 0 ∧ W = wr) (fun _ _ => 0)
      case atStart => exact ⟨rfl, rfl⟩
      case round =>
        obtain ⟨rfl, rfl⟩ := hrel
        go_wp2
        change Code.wp _ _ _ (Act.mk _ _) _
        go_loopw [11] (fun v W => v = .int .i64 0 ∧ W = wr) (fun _ _ => 0)
        case atStart => exact ⟨rfl, rfl⟩
        case round =>
          obtain ⟨rfl, rfl⟩ := hrel
          go_wp2
          change Code.wp _ _ _ (Act.mk _ _) _
          go_loopw [14] (fun v W => v = .int .i64 0 ∧ W = wr) (fun _ _ => 0)
          case atStart => exact ⟨rfl, rfl⟩
          case round =>
            obtain ⟨rfl, rfl⟩ := hrel
            go_wp2
            go_ret
            exact ⟨rfl, hB⟩

theorem infoLongs : (Tryz.prog.info? 143).map (fun i => (i.zero, i.size, i.bytes)) = some (some (.slice none 0 0), 1, 24) := by kernel_rfl
set_option maxRecDepth 100000 in
set_option maxHeartbeats 2000000 in
theorem flatLongs_nil (w : World) : Calls Tryz.prog 92 #[.slice none 0 0] w (Fresh w (.bool true)) := by
  obtain ⟨i0, hi, hz0, hz1, hz2⟩ := info_parts infoLongs
  have hd : decide ((0 : Int) < 0) = false := by decide
  go_enter Tryz.func92, Tryz.ntmps92
  go_wp2
  change Code.wp _ _ _ (Act.mk _ _) _
  go_loopw [3] (fun v W => v = .int .i64 0 ∧ W = w) (fun _ _ => 0)
  case atStart => exact ⟨rfl, rfl⟩
  case round =>
    obtain ⟨rfl, rfl⟩ := hrel
    go_wp2_with (refine wpList_make_full _ rfl _ _ 85 rfl wr.heap.size 143 i0 (.slice none 0 0) 1 Tryz.underlying85 hi hz0 hz1 _ _ _ _ 0 rfl rfl rfl rfl (by omega) (by unfold maxLen; omega) (Nat.le_refl _) ?_; intro W1 hown1 hgr1)
    have hB := below_grown1 (Below.refl wr.heap.size wr) hgr1 (Nat.le_refl _)
    clear hown1 hgr1
    change Code.wp _ _ _ (Act.mk _ _) _
    go_loopw [6] (fun v W => v = .int .i64 0 ∧ W = W1) (fun _ _ => 0)
    case atStart => exact ⟨rfl, rfl⟩
    case round =>
      obtain ⟨rfl, rfl⟩ := hrel
      go_wp2
      change Code.wp _ _ _ (Act.mk _ _) _
      go_loopw [9] (fun v W => v = .int .i64 0 ∧ W = wr) (fun _ _ => 0)
      case atStart => exact ⟨rfl, rfl⟩
      case round =>
        obtain ⟨rfl, rfl⟩ := hrel
        go_wp2
        change Code.wp _ _ _ (Act.mk _ _) _
        go_loopw [11] (fun v W => v = .int .i64 0 ∧ W = wr) (fun _ _ => 0)
        case atStart => exact ⟨rfl, rfl⟩
        case round =>
          obtain ⟨rfl, rfl⟩ := hrel
          go_wp2
          change Code.wp _ _ _ (Act.mk _ _) _
          go_loopw [14] (fun v W => v = .int .i64 0 ∧ W = wr) (fun _ _ => 0)
          case atStart => exact ⟨rfl, rfl⟩
          case round =>
            obtain ⟨rfl, rfl⟩ := hrel
            go_wp2
            go_ret
            exact ⟨rfl, hB⟩

theorem infoTexts : (Tryz.prog.info? 144).map (fun i => (i.zero, i.size, i.bytes)) = some (some (.slice none 0 0), 1, 24) := by kernel_rfl
set_option maxRecDepth 100000 in
set_option maxHeartbeats 2000000 in
theorem flatTexts_nil (w : World) : Calls Tryz.prog 93 #[.slice none 0 0] w (Fresh w (.bool true)) := by
  obtain ⟨i0, hi, hz0, hz1, hz2⟩ := info_parts infoTexts
  have hd : decide ((0 : Int) < 0) = false := by decide
  go_enter Tryz.func93, Tryz.ntmps93
  go_wp2
  change Code.wp _ _ _ (Act.mk _ _) _
  go_loopw [3] (fun v W => v = .int .i64 0 ∧ W = w) (fun _ _ => 0)
  case atStart => exact ⟨rfl, rfl⟩
  case round =>
    obtain ⟨rfl, rfl⟩ := hrel
    go_wp2_with (refine wpList_make_full _ rfl _ _ 86 rfl wr.heap.size 144 i0 (.slice none 0 0) 1 Tryz.underlying86 hi hz0 hz1 _ _ _ _ 0 rfl rfl rfl rfl (by omega) (by unfold maxLen; omega) (Nat.le_refl _) ?_; intro W1 hown1 hgr1)
    have hB := below_grown1 (Below.refl wr.heap.size wr) hgr1 (Nat.le_refl _)
    clear hown1 hgr1
    change Code.wp _ _ _ (Act.mk _ _) _
    go_loopw [6] (fun v W => v = .int .i64 0 ∧ W = W1) (fun _ _ => 0)
    case atStart => exact ⟨rfl, rfl⟩
    case round =>
      obtain ⟨rfl, rfl⟩ := hrel
      go_wp2
      change Code.wp _ _ _ (Act.mk _ _) _
      go_loopw [9] (fun v W => v = .int .i64 0 ∧ W = wr) (fun _ _ => 0)
      case atStart => exact ⟨rfl, rfl⟩
      case round =>
        obtain ⟨rfl, rfl⟩ := hrel
        go_wp2
        change Code.wp _ _ _ (Act.mk _ _) _
        go_loopw [11] (fun v W => v = .int .i64 0 ∧ W = wr) (fun _ _ => 0)
        case atStart => exact ⟨rfl, rfl⟩
        case round =>
          obtain ⟨rfl, rfl⟩ := hrel
          go_wp2
          change Code.wp _ _ _ (Act.mk _ _) _
          go_loopw [14] (fun v W => v = .int .i64 0 ∧ W = wr) (fun _ _ => 0)
          case atStart => exact ⟨rfl, rfl⟩
          case round =>
            obtain ⟨rfl, rfl⟩ := hrel
            go_wp2
            go_ret
            exact ⟨rfl, hB⟩

theorem infoBytes : (Tryz.prog.info? 146).map (fun i => (i.zero, i.size, i.bytes)) = some (some (.slice none 0 0), 1, 24) := by kernel_rfl
set_option maxRecDepth 100000 in
set_option maxHeartbeats 2000000 in
theorem flatBytes_nil (w : World) : Calls Tryz.prog 94 #[.slice none 0 0] w (Fresh w (.bool true)) := by
  obtain ⟨i0, hi, hz0, hz1, hz2⟩ := info_parts infoBytes
  have hd : decide ((0 : Int) < 0) = false := by decide
  go_enter Tryz.func94, Tryz.ntmps94
  go_wp2
  change Code.wp _ _ _ (Act.mk _ _) _
  go_loopw [3] (fun v W => v = .int .i64 0 ∧ W = w) (fun _ _ => 0)
  case atStart => exact ⟨rfl, rfl⟩
  case round =>
    obtain ⟨rfl, rfl⟩ := hrel
    go_wp2_with (refine wpList_make_full _ rfl _ _ 87 rfl wr.heap.size 146 i0 (.slice none 0 0) 1 Tryz.underlying87 hi hz0 hz1 _ _ _ _ 0 rfl rfl rfl rfl (by omega) (by unfold maxLen; omega) (Nat.le_refl _) ?_; intro W1 hown1 hgr1)
    have hB := below_grown1 (Below.refl wr.heap.size wr) hgr1 (Nat.le_refl _)
    clear hown1 hgr1
    change Code.wp _ _ _ (Act.mk _ _) _
    go_loopw [6] (fun v W => v = .int .i64 0 ∧ W = W1) (fun _ _ => 0)
    case atStart => exact ⟨rfl, rfl⟩
    case round =>
      obtain ⟨rfl, rfl⟩ := hrel
      go_wp2
      change Code.wp _ _ _ (Act.mk _ _) _
      go_loopw [9] (fun v W => v = .int .i64 0 ∧ W = wr) (fun _ _ => 0)
      case atStart => exact ⟨rfl, rfl⟩
      case round =>
        obtain ⟨rfl, rfl⟩ := hrel
        go_wp2
        change Code.wp _ _ _ (Act.mk _ _) _
        go_loopw [11] (fun v W => v = .int .i64 0 ∧ W = wr) (fun _ _ => 0)
        case atStart => exact ⟨rfl, rfl⟩
        case round =>
          obtain ⟨rfl, rfl⟩ := hrel
          go_wp2
          change Code.wp _ _ _ (Act.mk _ _) _
          go_loopw [14] (fun v W => v = .int .i64 0 ∧ W = wr) (fun _ _ => 0)
          case atStart => exact ⟨rfl, rfl⟩
          case round =>
            obtain ⟨rfl, rfl⟩ := hrel
            go_wp2
            go_ret
            exact ⟨rfl, hB⟩

theorem infoTruths : (Tryz.prog.info? 79).map (fun i => (i.zero, i.size, i.bytes)) = some (some (.slice none 0 0), 1, 24) := by kernel_rfl
set_option maxRecDepth 100000 in
set_option maxHeartbeats 2000000 in
theorem flatTruths_nil (w : World) : Calls Tryz.prog 95 #[.slice none 0 0] w (Fresh w (.bool true)) := by
  obtain ⟨i0, hi, hz0, hz1, hz2⟩ := info_parts infoTruths
  have hd : decide ((0 : Int) < 0) = false := by decide
  go_enter Tryz.func95, Tryz.ntmps95
  go_wp2
  change Code.wp _ _ _ (Act.mk _ _) _
  go_loopw [3] (fun v W => v = .int .i64 0 ∧ W = w) (fun _ _ => 0)
  case atStart => exact ⟨rfl, rfl⟩
  case round =>
    obtain ⟨rfl, rfl⟩ := hrel
    go_wp2_with (refine wpList_make_full _ rfl _ _ 88 rfl wr.heap.size 79 i0 (.slice none 0 0) 1 Tryz.underlying88 hi hz0 hz1 _ _ _ _ 0 rfl rfl rfl rfl (by omega) (by unfold maxLen; omega) (Nat.le_refl _) ?_; intro W1 hown1 hgr1)
    have hB := below_grown1 (Below.refl wr.heap.size wr) hgr1 (Nat.le_refl _)
    clear hown1 hgr1
    change Code.wp _ _ _ (Act.mk _ _) _
    go_loopw [6] (fun v W => v = .int .i64 0 ∧ W = W1) (fun _ _ => 0)
    case atStart => exact ⟨rfl, rfl⟩
    case round =>
      obtain ⟨rfl, rfl⟩ := hrel
      go_wp2
      change Code.wp _ _ _ (Act.mk _ _) _
      go_loopw [9] (fun v W => v = .int .i64 0 ∧ W = wr) (fun _ _ => 0)
      case atStart => exact ⟨rfl, rfl⟩
      case round =>
        obtain ⟨rfl, rfl⟩ := hrel
        go_wp2
        change Code.wp _ _ _ (Act.mk _ _) _
        go_loopw [11] (fun v W => v = .int .i64 0 ∧ W = wr) (fun _ _ => 0)
        case atStart => exact ⟨rfl, rfl⟩
        case round =>
          obtain ⟨rfl, rfl⟩ := hrel
          go_wp2
          change Code.wp _ _ _ (Act.mk _ _) _
          go_loopw [14] (fun v W => v = .int .i64 0 ∧ W = wr) (fun _ _ => 0)
          case atStart => exact ⟨rfl, rfl⟩
          case round =>
            obtain ⟨rfl, rfl⟩ := hrel
            go_wp2
            go_ret
            exact ⟨rfl, hB⟩

theorem infoRow : (Tryz.prog.info? 43).map (fun i => (i.zero, i.size, i.bytes)) = some (some (.slice none 0 0), 1, 24) := by kernel_rfl
set_option maxRecDepth 100000 in
set_option maxHeartbeats 2000000 in
theorem flatRow_nil (w : World) : Calls Tryz.prog 96 #[.slice none 0 0] w (Fresh w (.bool true)) := by
  obtain ⟨i0, hi, hz0, hz1, hz2⟩ := info_parts infoRow
  have hd : decide ((0 : Int) < 0) = false := by decide
  go_enter Tryz.func96, Tryz.ntmps96
  go_wp2
  change Code.wp _ _ _ (Act.mk _ _) _
  go_loopw [3] (fun v W => v = .int .i64 0 ∧ W = w) (fun _ _ => 0)
  case atStart => exact ⟨rfl, rfl⟩
  case round =>
    obtain ⟨rfl, rfl⟩ := hrel
    go_wp2_with (refine wpList_make_full _ rfl _ _ 89 rfl wr.heap.size 43 i0 (.slice none 0 0) 1 Tryz.underlying89 hi hz0 hz1 _ _ _ _ 0 rfl rfl rfl rfl (by omega) (by unfold maxLen; omega) (Nat.le_refl _) ?_; intro W1 hown1 hgr1)
    have hB := below_grown1 (Below.refl wr.heap.size wr) hgr1 (Nat.le_refl _)
    clear hown1 hgr1
    change Code.wp _ _ _ (Act.mk _ _) _
    go_loopw [6] (fun v W => v = .int .i64 0 ∧ W = W1) (fun _ _ => 0)
    case atStart => exact ⟨rfl, rfl⟩
    case round =>
      obtain ⟨rfl, rfl⟩ := hrel
      go_wp2
      change Code.wp _ _ _ (Act.mk _ _) _
      go_loopw [9] (fun v W => v = .int .i64 0 ∧ W = wr) (fun _ _ => 0)
      case atStart => exact ⟨rfl, rfl⟩
      case round =>
        obtain ⟨rfl, rfl⟩ := hrel
        go_wp2
        change Code.wp _ _ _ (Act.mk _ _) _
        go_loopw [11] (fun v W => v = .int .i64 0 ∧ W = wr) (fun _ _ => 0)
        case atStart => exact ⟨rfl, rfl⟩
        case round =>
          obtain ⟨rfl, rfl⟩ := hrel
          go_wp2
          change Code.wp _ _ _ (Act.mk _ _) _
          go_loopw [14] (fun v W => v = .int .i64 0 ∧ W = wr) (fun _ _ => 0)
          case atStart => exact ⟨rfl, rfl⟩
          case round =>
            obtain ⟨rfl, rfl⟩ := hrel
            go_wp2
            go_ret
            exact ⟨rfl, hB⟩

theorem infoBlocks : (Tryz.prog.info? 23).map (fun i => (i.zero, i.size, i.bytes)) = some (some (.slice none 0 0), 1, 24) := by kernel_rfl
set_option maxRecDepth 100000 in
set_option maxHeartbeats 2000000 in
theorem flatBlocks_nil (w : World) : Calls Tryz.prog 97 #[.slice none 0 0] w (Fresh w (.bool true)) := by
  obtain ⟨i0, hi, hz0, hz1, hz2⟩ := info_parts infoBlocks
  have hd : decide ((0 : Int) < 0) = false := by decide
  go_enter Tryz.func97, Tryz.ntmps97
  go_wp2
  change Code.wp _ _ _ (Act.mk _ _) _
  go_loopw [3] (fun v W => v = .int .i64 0 ∧ W = w) (fun _ _ => 0)
  case atStart => exact ⟨rfl, rfl⟩
  case round =>
    obtain ⟨rfl, rfl⟩ := hrel
    go_wp2_with (refine wpList_make_full _ rfl _ _ 90 rfl wr.heap.size 23 i0 (.slice none 0 0) 1 Tryz.underlying90 hi hz0 hz1 _ _ _ _ 0 rfl rfl rfl rfl (by omega) (by unfold maxLen; omega) (Nat.le_refl _) ?_; intro W1 hown1 hgr1)
    have hB := below_grown1 (Below.refl wr.heap.size wr) hgr1 (Nat.le_refl _)
    clear hown1 hgr1
    change Code.wp _ _ _ (Act.mk _ _) _
    go_loopw [6] (fun v W => v = .int .i64 0 ∧ W = W1) (fun _ _ => 0)
    case atStart => exact ⟨rfl, rfl⟩
    case round =>
      obtain ⟨rfl, rfl⟩ := hrel
      go_wp2
      change Code.wp _ _ _ (Act.mk _ _) _
      go_loopw [9] (fun v W => v = .int .i64 0 ∧ W = wr) (fun _ _ => 0)
      case atStart => exact ⟨rfl, rfl⟩
      case round =>
        obtain ⟨rfl, rfl⟩ := hrel
        go_wp2
        change Code.wp _ _ _ (Act.mk _ _) _
        go_loopw [11] (fun v W => v = .int .i64 0 ∧ W = wr) (fun _ _ => 0)
        case atStart => exact ⟨rfl, rfl⟩
        case round =>
          obtain ⟨rfl, rfl⟩ := hrel
          go_wp2
          change Code.wp _ _ _ (Act.mk _ _) _
          go_loopw [14] (fun v W => v = .int .i64 0 ∧ W = wr) (fun _ _ => 0)
          case atStart => exact ⟨rfl, rfl⟩
          case round =>
            obtain ⟨rfl, rfl⟩ := hrel
            go_wp2
            go_ret
            exact ⟨rfl, hB⟩

theorem infoFuncs : (Tryz.prog.info? 150).map (fun i => (i.zero, i.size, i.bytes)) = some (some (.slice none 0 0), 1, 24) := by kernel_rfl
set_option maxRecDepth 100000 in
set_option maxHeartbeats 2000000 in
theorem flatFuncs_nil (w : World) : Calls Tryz.prog 98 #[.slice none 0 0] w (Fresh w (.bool true)) := by
  obtain ⟨i0, hi, hz0, hz1, hz2⟩ := info_parts infoFuncs
  have hd : decide ((0 : Int) < 0) = false := by decide
  go_enter Tryz.func98, Tryz.ntmps98
  go_wp2
  change Code.wp _ _ _ (Act.mk _ _) _
  go_loopw [3] (fun v W => v = .int .i64 0 ∧ W = w) (fun _ _ => 0)
  case atStart => exact ⟨rfl, rfl⟩
  case round =>
    obtain ⟨rfl, rfl⟩ := hrel
    go_wp2_with (refine wpList_make_full _ rfl _ _ 91 rfl wr.heap.size 150 i0 (.slice none 0 0) 1 Tryz.underlying91 hi hz0 hz1 _ _ _ _ 0 rfl rfl rfl rfl (by omega) (by unfold maxLen; omega) (Nat.le_refl _) ?_; intro W1 hown1 hgr1)
    have hB := below_grown1 (Below.refl wr.heap.size wr) hgr1 (Nat.le_refl _)
    clear hown1 hgr1
    change Code.wp _ _ _ (Act.mk _ _) _
    go_loopw [6] (fun v W => v = .int .i64 0 ∧ W = W1) (fun _ _ => 0)
    case atStart => exact ⟨rfl, rfl⟩
    case round =>
      obtain ⟨rfl, rfl⟩ := hrel
      go_wp2
      change Code.wp _ _ _ (Act.mk _ _) _
      go_loopw [9] (fun v W => v = .int .i64 0 ∧ W = wr) (fun _ _ => 0)
      case atStart => exact ⟨rfl, rfl⟩
      case round =>
        obtain ⟨rfl, rfl⟩ := hrel
        go_wp2
        change Code.wp _ _ _ (Act.mk _ _) _
        go_loopw [11] (fun v W => v = .int .i64 0 ∧ W = wr) (fun _ _ => 0)
        case atStart => exact ⟨rfl, rfl⟩
        case round =>
          obtain ⟨rfl, rfl⟩ := hrel
          go_wp2
          change Code.wp _ _ _ (Act.mk _ _) _
          go_loopw [14] (fun v W => v = .int .i64 0 ∧ W = wr) (fun _ _ => 0)
          case atStart => exact ⟨rfl, rfl⟩
          case round =>
            obtain ⟨rfl, rfl⟩ := hrel
            go_wp2
            go_ret
            exact ⟨rfl, hB⟩

theorem infoTargets : (Tryz.prog.info? 152).map (fun i => (i.zero, i.size, i.bytes)) = some (some (.slice none 0 0), 1, 24) := by kernel_rfl
set_option maxRecDepth 100000 in
set_option maxHeartbeats 2000000 in
theorem flatTargets_nil (w : World) : Calls Tryz.prog 99 #[.slice none 0 0] w (Fresh w (.bool true)) := by
  obtain ⟨i0, hi, hz0, hz1, hz2⟩ := info_parts infoTargets
  have hd : decide ((0 : Int) < 0) = false := by decide
  go_enter Tryz.func99, Tryz.ntmps99
  go_wp2
  change Code.wp _ _ _ (Act.mk _ _) _
  go_loopw [3] (fun v W => v = .int .i64 0 ∧ W = w) (fun _ _ => 0)
  case atStart => exact ⟨rfl, rfl⟩
  case round =>
    obtain ⟨rfl, rfl⟩ := hrel
    go_wp2_with (refine wpList_make_full _ rfl _ _ 92 rfl wr.heap.size 152 i0 (.slice none 0 0) 1 Tryz.underlying92 hi hz0 hz1 _ _ _ _ 0 rfl rfl rfl rfl (by omega) (by unfold maxLen; omega) (Nat.le_refl _) ?_; intro W1 hown1 hgr1)
    have hB := below_grown1 (Below.refl wr.heap.size wr) hgr1 (Nat.le_refl _)
    clear hown1 hgr1
    change Code.wp _ _ _ (Act.mk _ _) _
    go_loopw [6] (fun v W => v = .int .i64 0 ∧ W = W1) (fun _ _ => 0)
    case atStart => exact ⟨rfl, rfl⟩
    case round =>
      obtain ⟨rfl, rfl⟩ := hrel
      go_wp2
      change Code.wp _ _ _ (Act.mk _ _) _
      go_loopw [9] (fun v W => v = .int .i64 0 ∧ W = wr) (fun _ _ => 0)
      case atStart => exact ⟨rfl, rfl⟩
      case round =>
        obtain ⟨rfl, rfl⟩ := hrel
        go_wp2
        change Code.wp _ _ _ (Act.mk _ _) _
        go_loopw [11] (fun v W => v = .int .i64 0 ∧ W = wr) (fun _ _ => 0)
        case atStart => exact ⟨rfl, rfl⟩
        case round =>
          obtain ⟨rfl, rfl⟩ := hrel
          go_wp2
          change Code.wp _ _ _ (Act.mk _ _) _
          go_loopw [14] (fun v W => v = .int .i64 0 ∧ W = wr) (fun _ _ => 0)
          case atStart => exact ⟨rfl, rfl⟩
          case round =>
            obtain ⟨rfl, rfl⟩ := hrel
            go_wp2
            go_ret
            exact ⟨rfl, hB⟩

theorem infoMachines : (Tryz.prog.info? 157).map (fun i => (i.zero, i.size, i.bytes)) = some (some (.slice none 0 0), 1, 24) := by kernel_rfl
set_option maxRecDepth 100000 in
set_option maxHeartbeats 2000000 in
theorem flatMachines_nil (w : World) : Calls Tryz.prog 100 #[.slice none 0 0] w (Fresh w (.bool true)) := by
  obtain ⟨i0, hi, hz0, hz1, hz2⟩ := info_parts infoMachines
  have hd : decide ((0 : Int) < 0) = false := by decide
  go_enter Tryz.func100, Tryz.ntmps100
  go_wp2
  change Code.wp _ _ _ (Act.mk _ _) _
  go_loopw [3] (fun v W => v = .int .i64 0 ∧ W = w) (fun _ _ => 0)
  case atStart => exact ⟨rfl, rfl⟩
  case round =>
    obtain ⟨rfl, rfl⟩ := hrel
    go_wp2_with (refine wpList_make_full _ rfl _ _ 93 rfl wr.heap.size 157 i0 (.slice none 0 0) 1 Tryz.underlying93 hi hz0 hz1 _ _ _ _ 0 rfl rfl rfl rfl (by omega) (by unfold maxLen; omega) (Nat.le_refl _) ?_; intro W1 hown1 hgr1)
    have hB := below_grown1 (Below.refl wr.heap.size wr) hgr1 (Nat.le_refl _)
    clear hown1 hgr1
    change Code.wp _ _ _ (Act.mk _ _) _
    go_loopw [6] (fun v W => v = .int .i64 0 ∧ W = W1) (fun _ _ => 0)
    case atStart => exact ⟨rfl, rfl⟩
    case round =>
      obtain ⟨rfl, rfl⟩ := hrel
      go_wp2
      change Code.wp _ _ _ (Act.mk _ _) _
      go_loopw [9] (fun v W => v = .int .i64 0 ∧ W = wr) (fun _ _ => 0)
      case atStart => exact ⟨rfl, rfl⟩
      case round =>
        obtain ⟨rfl, rfl⟩ := hrel
        go_wp2
        change Code.wp _ _ _ (Act.mk _ _) _
        go_loopw [11] (fun v W => v = .int .i64 0 ∧ W = wr) (fun _ _ => 0)
        case atStart => exact ⟨rfl, rfl⟩
        case round =>
          obtain ⟨rfl, rfl⟩ := hrel
          go_wp2
          change Code.wp _ _ _ (Act.mk _ _) _
          go_loopw [14] (fun v W => v = .int .i64 0 ∧ W = wr) (fun _ _ => 0)
          case atStart => exact ⟨rfl, rfl⟩
          case round =>
            obtain ⟨rfl, rfl⟩ := hrel
            go_wp2
            go_ret
            exact ⟨rfl, hB⟩

theorem infoLocs : (Tryz.prog.info? 162).map (fun i => (i.zero, i.size, i.bytes)) = some (some (.slice none 0 0), 1, 24) := by kernel_rfl
set_option maxRecDepth 100000 in
set_option maxHeartbeats 2000000 in
theorem flatLocs_nil (w : World) : Calls Tryz.prog 101 #[.slice none 0 0] w (Fresh w (.bool true)) := by
  obtain ⟨i0, hi, hz0, hz1, hz2⟩ := info_parts infoLocs
  have hd : decide ((0 : Int) < 0) = false := by decide
  go_enter Tryz.func101, Tryz.ntmps101
  go_wp2
  change Code.wp _ _ _ (Act.mk _ _) _
  go_loopw [3] (fun v W => v = .int .i64 0 ∧ W = w) (fun _ _ => 0)
  case atStart => exact ⟨rfl, rfl⟩
  case round =>
    obtain ⟨rfl, rfl⟩ := hrel
    go_wp2_with (refine wpList_make_full _ rfl _ _ 94 rfl wr.heap.size 162 i0 (.slice none 0 0) 1 Tryz.underlying94 hi hz0 hz1 _ _ _ _ 0 rfl rfl rfl rfl (by omega) (by unfold maxLen; omega) (Nat.le_refl _) ?_; intro W1 hown1 hgr1)
    have hB := below_grown1 (Below.refl wr.heap.size wr) hgr1 (Nat.le_refl _)
    clear hown1 hgr1
    change Code.wp _ _ _ (Act.mk _ _) _
    go_loopw [6] (fun v W => v = .int .i64 0 ∧ W = W1) (fun _ _ => 0)
    case atStart => exact ⟨rfl, rfl⟩
    case round =>
      obtain ⟨rfl, rfl⟩ := hrel
      go_wp2
      change Code.wp _ _ _ (Act.mk _ _) _
      go_loopw [9] (fun v W => v = .int .i64 0 ∧ W = wr) (fun _ _ => 0)
      case atStart => exact ⟨rfl, rfl⟩
      case round =>
        obtain ⟨rfl, rfl⟩ := hrel
        go_wp2
        change Code.wp _ _ _ (Act.mk _ _) _
        go_loopw [11] (fun v W => v = .int .i64 0 ∧ W = wr) (fun _ _ => 0)
        case atStart => exact ⟨rfl, rfl⟩
        case round =>
          obtain ⟨rfl, rfl⟩ := hrel
          go_wp2
          change Code.wp _ _ _ (Act.mk _ _) _
          go_loopw [14] (fun v W => v = .int .i64 0 ∧ W = wr) (fun _ _ => 0)
          case atStart => exact ⟨rfl, rfl⟩
          case round =>
            obtain ⟨rfl, rfl⟩ := hrel
            go_wp2
            go_ret
            exact ⟨rfl, hB⟩

theorem infoFacts : (Tryz.prog.info? 166).map (fun i => (i.zero, i.size, i.bytes)) = some (some (.slice none 0 0), 1, 24) := by kernel_rfl
set_option maxRecDepth 100000 in
set_option maxHeartbeats 2000000 in
theorem flatFacts_nil (w : World) : Calls Tryz.prog 102 #[.slice none 0 0] w (Fresh w (.bool true)) := by
  obtain ⟨i0, hi, hz0, hz1, hz2⟩ := info_parts infoFacts
  have hd : decide ((0 : Int) < 0) = false := by decide
  go_enter Tryz.func102, Tryz.ntmps102
  go_wp2
  change Code.wp _ _ _ (Act.mk _ _) _
  go_loopw [3] (fun v W => v = .int .i64 0 ∧ W = w) (fun _ _ => 0)
  case atStart => exact ⟨rfl, rfl⟩
  case round =>
    obtain ⟨rfl, rfl⟩ := hrel
    go_wp2_with (refine wpList_make_full _ rfl _ _ 95 rfl wr.heap.size 166 i0 (.slice none 0 0) 1 Tryz.underlying95 hi hz0 hz1 _ _ _ _ 0 rfl rfl rfl rfl (by omega) (by unfold maxLen; omega) (Nat.le_refl _) ?_; intro W1 hown1 hgr1)
    have hB := below_grown1 (Below.refl wr.heap.size wr) hgr1 (Nat.le_refl _)
    clear hown1 hgr1
    change Code.wp _ _ _ (Act.mk _ _) _
    go_loopw [6] (fun v W => v = .int .i64 0 ∧ W = W1) (fun _ _ => 0)
    case atStart => exact ⟨rfl, rfl⟩
    case round =>
      obtain ⟨rfl, rfl⟩ := hrel
      go_wp2
      change Code.wp _ _ _ (Act.mk _ _) _
      go_loopw [9] (fun v W => v = .int .i64 0 ∧ W = wr) (fun _ _ => 0)
      case atStart => exact ⟨rfl, rfl⟩
      case round =>
        obtain ⟨rfl, rfl⟩ := hrel
        go_wp2
        change Code.wp _ _ _ (Act.mk _ _) _
        go_loopw [11] (fun v W => v = .int .i64 0 ∧ W = wr) (fun _ _ => 0)
        case atStart => exact ⟨rfl, rfl⟩
        case round =>
          obtain ⟨rfl, rfl⟩ := hrel
          go_wp2
          change Code.wp _ _ _ (Act.mk _ _) _
          go_loopw [14] (fun v W => v = .int .i64 0 ∧ W = wr) (fun _ _ => 0)
          case atStart => exact ⟨rfl, rfl⟩
          case round =>
            obtain ⟨rfl, rfl⟩ := hrel
            go_wp2
            go_ret
            exact ⟨rfl, hB⟩

theorem infoEdges : (Tryz.prog.info? 32).map (fun i => (i.zero, i.size, i.bytes)) = some (some (.slice none 0 0), 1, 24) := by kernel_rfl
set_option maxRecDepth 100000 in
set_option maxHeartbeats 2000000 in
theorem flatEdges_nil (w : World) : Calls Tryz.prog 103 #[.slice none 0 0] w (Fresh w (.bool true)) := by
  obtain ⟨i0, hi, hz0, hz1, hz2⟩ := info_parts infoEdges
  have hd : decide ((0 : Int) < 0) = false := by decide
  go_enter Tryz.func103, Tryz.ntmps103
  go_wp2
  change Code.wp _ _ _ (Act.mk _ _) _
  go_loopw [3] (fun v W => v = .int .i64 0 ∧ W = w) (fun _ _ => 0)
  case atStart => exact ⟨rfl, rfl⟩
  case round =>
    obtain ⟨rfl, rfl⟩ := hrel
    go_wp2_with (refine wpList_make_full _ rfl _ _ 96 rfl wr.heap.size 32 i0 (.slice none 0 0) 1 Tryz.underlying96 hi hz0 hz1 _ _ _ _ 0 rfl rfl rfl rfl (by omega) (by unfold maxLen; omega) (Nat.le_refl _) ?_; intro W1 hown1 hgr1)
    have hB := below_grown1 (Below.refl wr.heap.size wr) hgr1 (Nat.le_refl _)
    clear hown1 hgr1
    change Code.wp _ _ _ (Act.mk _ _) _
    go_loopw [6] (fun v W => v = .int .i64 0 ∧ W = W1) (fun _ _ => 0)
    case atStart => exact ⟨rfl, rfl⟩
    case round =>
      obtain ⟨rfl, rfl⟩ := hrel
      go_wp2
      change Code.wp _ _ _ (Act.mk _ _) _
      go_loopw [9] (fun v W => v = .int .i64 0 ∧ W = wr) (fun _ _ => 0)
      case atStart => exact ⟨rfl, rfl⟩
      case round =>
        obtain ⟨rfl, rfl⟩ := hrel
        go_wp2
        change Code.wp _ _ _ (Act.mk _ _) _
        go_loopw [11] (fun v W => v = .int .i64 0 ∧ W = wr) (fun _ _ => 0)
        case atStart => exact ⟨rfl, rfl⟩
        case round =>
          obtain ⟨rfl, rfl⟩ := hrel
          go_wp2
          change Code.wp _ _ _ (Act.mk _ _) _
          go_loopw [14] (fun v W => v = .int .i64 0 ∧ W = wr) (fun _ _ => 0)
          case atStart => exact ⟨rfl, rfl⟩
          case round =>
            obtain ⟨rfl, rfl⟩ := hrel
            go_wp2
            go_ret
            exact ⟨rfl, hB⟩

theorem infoTiles : (Tryz.prog.info? 171).map (fun i => (i.zero, i.size, i.bytes)) = some (some (.slice none 0 0), 1, 24) := by kernel_rfl
set_option maxRecDepth 100000 in
set_option maxHeartbeats 2000000 in
theorem flatTiles_nil (w : World) : Calls Tryz.prog 104 #[.slice none 0 0] w (Fresh w (.bool true)) := by
  obtain ⟨i0, hi, hz0, hz1, hz2⟩ := info_parts infoTiles
  have hd : decide ((0 : Int) < 0) = false := by decide
  go_enter Tryz.func104, Tryz.ntmps104
  go_wp2
  change Code.wp _ _ _ (Act.mk _ _) _
  go_loopw [3] (fun v W => v = .int .i64 0 ∧ W = w) (fun _ _ => 0)
  case atStart => exact ⟨rfl, rfl⟩
  case round =>
    obtain ⟨rfl, rfl⟩ := hrel
    go_wp2_with (refine wpList_make_full _ rfl _ _ 97 rfl wr.heap.size 171 i0 (.slice none 0 0) 1 Tryz.underlying97 hi hz0 hz1 _ _ _ _ 0 rfl rfl rfl rfl (by omega) (by unfold maxLen; omega) (Nat.le_refl _) ?_; intro W1 hown1 hgr1)
    have hB := below_grown1 (Below.refl wr.heap.size wr) hgr1 (Nat.le_refl _)
    clear hown1 hgr1
    change Code.wp _ _ _ (Act.mk _ _) _
    go_loopw [6] (fun v W => v = .int .i64 0 ∧ W = W1) (fun _ _ => 0)
    case atStart => exact ⟨rfl, rfl⟩
    case round =>
      obtain ⟨rfl, rfl⟩ := hrel
      go_wp2
      change Code.wp _ _ _ (Act.mk _ _) _
      go_loopw [9] (fun v W => v = .int .i64 0 ∧ W = wr) (fun _ _ => 0)
      case atStart => exact ⟨rfl, rfl⟩
      case round =>
        obtain ⟨rfl, rfl⟩ := hrel
        go_wp2
        change Code.wp _ _ _ (Act.mk _ _) _
        go_loopw [11] (fun v W => v = .int .i64 0 ∧ W = wr) (fun _ _ => 0)
        case atStart => exact ⟨rfl, rfl⟩
        case round =>
          obtain ⟨rfl, rfl⟩ := hrel
          go_wp2
          change Code.wp _ _ _ (Act.mk _ _) _
          go_loopw [14] (fun v W => v = .int .i64 0 ∧ W = wr) (fun _ _ => 0)
          case atStart => exact ⟨rfl, rfl⟩
          case round =>
            obtain ⟨rfl, rfl⟩ := hrel
            go_wp2
            go_ret
            exact ⟨rfl, hB⟩

theorem infoCalls : (Tryz.prog.info? 177).map (fun i => (i.zero, i.size, i.bytes)) = some (some (.slice none 0 0), 1, 24) := by kernel_rfl
set_option maxRecDepth 100000 in
set_option maxHeartbeats 2000000 in
theorem flatCalls_nil (w : World) : Calls Tryz.prog 105 #[.slice none 0 0] w (Fresh w (.bool true)) := by
  obtain ⟨i0, hi, hz0, hz1, hz2⟩ := info_parts infoCalls
  have hd : decide ((0 : Int) < 0) = false := by decide
  go_enter Tryz.func105, Tryz.ntmps105
  go_wp2
  change Code.wp _ _ _ (Act.mk _ _) _
  go_loopw [3] (fun v W => v = .int .i64 0 ∧ W = w) (fun _ _ => 0)
  case atStart => exact ⟨rfl, rfl⟩
  case round =>
    obtain ⟨rfl, rfl⟩ := hrel
    go_wp2_with (refine wpList_make_full _ rfl _ _ 98 rfl wr.heap.size 177 i0 (.slice none 0 0) 1 Tryz.underlying98 hi hz0 hz1 _ _ _ _ 0 rfl rfl rfl rfl (by omega) (by unfold maxLen; omega) (Nat.le_refl _) ?_; intro W1 hown1 hgr1)
    have hB := below_grown1 (Below.refl wr.heap.size wr) hgr1 (Nat.le_refl _)
    clear hown1 hgr1
    change Code.wp _ _ _ (Act.mk _ _) _
    go_loopw [6] (fun v W => v = .int .i64 0 ∧ W = W1) (fun _ _ => 0)
    case atStart => exact ⟨rfl, rfl⟩
    case round =>
      obtain ⟨rfl, rfl⟩ := hrel
      go_wp2
      change Code.wp _ _ _ (Act.mk _ _) _
      go_loopw [9] (fun v W => v = .int .i64 0 ∧ W = wr) (fun _ _ => 0)
      case atStart => exact ⟨rfl, rfl⟩
      case round =>
        obtain ⟨rfl, rfl⟩ := hrel
        go_wp2
        change Code.wp _ _ _ (Act.mk _ _) _
        go_loopw [11] (fun v W => v = .int .i64 0 ∧ W = wr) (fun _ _ => 0)
        case atStart => exact ⟨rfl, rfl⟩
        case round =>
          obtain ⟨rfl, rfl⟩ := hrel
          go_wp2
          change Code.wp _ _ _ (Act.mk _ _) _
          go_loopw [14] (fun v W => v = .int .i64 0 ∧ W = wr) (fun _ _ => 0)
          case atStart => exact ⟨rfl, rfl⟩
          case round =>
            obtain ⟨rfl, rfl⟩ := hrel
            go_wp2
            go_ret
            exact ⟨rfl, hB⟩

end Go.Proofs.YtjichaeegheacaaGreatDoor
