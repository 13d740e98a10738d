/-
  bits.Of: a set of some numbers.
-/
import Derived.Test.YtjichaeegheacaaDoorBitsA
namespace Go.Proofs.YtjichaeegheacaaDoor
open Go Go.RowKit

theorem setA_zero : setA 0 = #[.int .u64 0, .int .u64 0, .int .u64 0, .int .u64 0, .int .u64 0, .int .u64 0, .int .u64 0, .int .u64 0, .int .u64 0, .int .u64 0, .int .u64 0, .int .u64 0, .int .u64 0, .int .u64 0, .int .u64 0, .int .u64 0] := by
  kernel_rfl

theorem With_zero (A : Option Addr) (c : Nat) (xs : List Int) (w : World) (hr : RI w A xs) :
    Calls Tryd.prog 11 #[.agg #[.int .u64 0, .int .u64 0, .int .u64 0, .int .u64 0, .int .u64 0, .int .u64 0, .int .u64 0, .int .u64 0, .int .u64 0, .int .u64 0, .int .u64 0, .int .u64 0, .int .u64 0, .int .u64 0, .int .u64 0, .int .u64 0], .slice A xs.length c] w (Fresh w (.agg (setA (withL 0 xs)))) := by
  have := With_any 0 A c xs w hr
  rw [setA_zero] at this
  exact this

set_option maxHeartbeats 400000 in
theorem Of_any (A : Option Addr) (c : Nat) (xs : List Int) (w : World) (hr : RI w A xs) :
    Calls Tryd.prog 10 #[.slice A xs.length c] w (Fresh w (.agg (setA (withL 0 xs)))) := by
  go_enter Tryd.func10, Tryd.ntmps10
  go_wp2_with fail
  have hn := blk_new w (.cells #[.int .u64 0, .int .u64 0, .int .u64 0, .int .u64 0, .int .u64 0, .int .u64 0, .int .u64 0, .int .u64 0, .int .u64 0, .int .u64 0, .int .u64 0, .int .u64 0, .int .u64 0, .int .u64 0, .int .u64 0, .int .u64 0] 27)
  have hB0 : Below w.heap.size w (w.alloc (.cells #[.int .u64 0, .int .u64 0, .int .u64 0, .int .u64 0, .int .u64 0, .int .u64 0, .int .u64 0, .int .u64 0, .int .u64 0, .int .u64 0, .int .u64 0, .int .u64 0, .int .u64 0, .int .u64 0, .int .u64 0, .int .u64 0] 27)) := (Below.refl _ _).alloc (Nat.le_refl _) _
  refine (With_zero _ _ _ _ (hr.below hB0)).mono ?_
  rintro e w1 ⟨rfl, hb⟩
  have hr1 := blk_below hb hn (by simp)
  have hb1 := hB0.trans (hb.mono hB0.size)
  clear hb hn hB0
  go_wp2_with (refine wpList_store_row rfl _ _ _ rfl _ _ rfl rfl _ _ hr1 (szSetA _) (by rw [setA_size]; rfl) (oneCell_setA _) ?_)
  exact bodyPost_ret (results_cell_row rfl _ _ _ _ _ _ _ rfl (blk_setRow hr1) Tryd.underlying27 rfl (szSetA _)) rfl ⟨rfl, below_setRow hb1 (Nat.le_refl _) _⟩

end Go.Proofs.YtjichaeegheacaaDoor
