/-
  The package bits, on: Without, And.
-/
import Derived.Test.YtjichaeegheacaaDoorBitsA
namespace Go.Proofs.YtjichaeegheacaaDoor
open Go Go.RowKit

set_option maxHeartbeats 400000 in
theorem Without_any (N : Nat) (A : Option Addr) (c : Nat) (xs : List Int) (w : World) (hr : RI w A xs) :
    Calls Tryd.prog 12 #[.agg (setA N), .slice A xs.length c] w (Fresh w (.agg (setA (outL N xs)))) := by
  have hlen := hr.len
  go_enter Tryd.func12, Tryd.ntmps12
  go_wp2
  go_loopw [9] (fun i wr => ∃ k : Nat, k ≤ xs.length ∧ i = .int .i64 k ∧ wr.heap[w.heap.size]? = some (.cells (setA (outL N (xs.take k))) 27 (0, 0)) ∧ (∃ cs : Array Value, cs.size = 16 ∧ wr.heap[w.heap.size + 1]? = some (.cells cs 27 (0, 0))) ∧ Below w.heap.size w wr) (fun i _ => xs.length - (intOf i).toNat)
  case atStart => exact ⟨0, Nat.zero_le _, rfl, (blk_old _ _ (by simp)).trans (blk_new w _), ⟨_, by rfl, blk_new1 w _ _⟩, ((Below.refl _ _).alloc (Nat.le_refl _) _).alloc (by simp) _⟩
  case round =>
    obtain ⟨k, hk, rfl, hs, ⟨cs, hcs, hs2⟩, hb⟩ := hrel
    by_cases hlt : k < xs.length
    · obtain ⟨b, off, rfl, hbl, hck, hx⟩ := (hr.below hb).at_ hlt
      have HS : Hid (outL N (xs.take (k + 1)) = outI (outL N (xs.take k)) (gI xs k)) := outL_take_succ N xs k hlt
      generalize gI xs k = x at *
      by_cases hin : inR x = true
      · have hx' := (inR_iff x).1 hin
        have hw := wrap_u64_in x hx'.1 (by omega)
        have hand := and63 x hx'.1 hx'.2
        have hshl := shl_one (x % 64).toNat (by omega)
        have hcell : wr.cell? ⟨w.heap.size, (x / 64).toNat, none⟩ = some (.int .u64 ((wd (outL N (xs.take k)) (x / 64).toNat : Nat) : Int)) := (cell_of_row wr _ _ _ _ _ hs).trans (setA_get _ _ (by omega))
        have hfr : wr.frozen? ⟨w.heap.size, (x / 64).toNat, none⟩ = false := frozen_of_row wr _ _ _ _ hs
        have hor := less_u64 (wd_lt (outL N (xs.take k)) (x / 64).toNat) (bitW_lt (k := (x % 64).toNat) (by omega))
        have HA : Hid ((setA (outL N (xs.take k))).setIfInBounds (x / 64).toNat (.int .u64 ((lessW (wd (outL N (xs.take k)) (x / 64).toNat) (bitW (x % 64).toNat) : Nat) : Int)) = setA (delN (outL N (xs.take k)) x.toNat)) := by
          have h1 : (x / 64).toNat = x.toNat / 64 := by omega
          have h2 : (x % 64).toNat = x.toNat % 64 := by omega
          rw [h1, h2]; exact setA_del
        go_wp2
        go_region
        go_wp2
        go_roundw
        case rel =>
          refine ⟨k + 1, by omega, by go_num, ?_, ⟨cs, hcs, ?_⟩, (hb.setCell (by simp) _).drew⟩
          · rw [HS.out, outI, if_pos hin, ← HA.out]; exact blk_set hs
          · exact (blk_far (by simp)).trans hs2
        case measure => simp [intOf]; omega
      · have hw := wrap_u64_out x hx (by simpa using hin)
        go_wp2
        go_roundw
        case rel => exact ⟨k + 1, by omega, by go_num, by rw [HS.out, outI, if_neg hin]; exact hs, ⟨cs, hcs, hs2⟩, hb⟩
        case measure => simp [intOf]; omega
    · have e : xs.take k = xs := List.take_of_length_le (by omega)
      rw [e] at hs
      go_wp2_with (first | (refine wpList_load_row rfl _ _ rfl _ rfl _ _ _ _ hs Tryd.underlying27 rfl (szSetA _) ?_) | (refine wpList_store_row rfl _ _ _ rfl _ _ rfl rfl _ _ hs2 (szSetA _) (by rw [setA_size]; exact hcs) (oneCell_setA _) ?_))
      exact bodyPost_ret (results_cell_row rfl _ _ _ _ _ _ _ rfl (blk_setRow hs2) Tryd.underlying27 rfl (szSetA _)) rfl ⟨rfl, below_setRow hb (by omega) _⟩

set_option maxHeartbeats 400000 in
theorem And_any (N M : Nat) (w : World) :
    Calls Tryd.prog 17 #[.agg (setA N), .agg (setA M)] w (Fresh w (.agg (setA (N &&& M)))) := by
  go_enter Tryd.func17, Tryd.ntmps17
  go_wp2
  go_loopw [6] (fun i wr => ∃ k : Nat, k ≤ 16 ∧ i = .int .i64 k ∧ (∃ cs : Array Value, Mix cs (N &&& M) N k ∧ wr.heap[w.heap.size]? = some (.cells cs 27 (0, 0))) ∧ wr.heap[w.heap.size + 1]? = some (.cells (setA M) 27 (0, 0)) ∧ (∃ cs : Array Value, cs.size = 16 ∧ wr.heap[w.heap.size + 2]? = some (.cells cs 27 (0, 0))) ∧ Below w.heap.size w wr) (fun i _ => 16 - (intOf i).toNat)
  case atStart =>
    have h3 := blk_new1 (w.alloc (.cells (setA N) 27)) (.cells (setA M) 27) (.cells #[.int .u64 0, .int .u64 0, .int .u64 0, .int .u64 0, .int .u64 0, .int .u64 0, .int .u64 0, .int .u64 0, .int .u64 0, .int .u64 0, .int .u64 0, .int .u64 0, .int .u64 0, .int .u64 0, .int .u64 0, .int .u64 0] 27)
    rw [World.size_alloc] at h3
    exact ⟨0, Nat.zero_le _, rfl, ⟨_, Mix.start _ N, (blk_old _ _ (by simp; omega)).trans ((blk_old _ _ (by simp)).trans (blk_new w _))⟩, (blk_old _ _ (by simp)).trans (blk_new1 w _ _), ⟨_, by rfl, h3⟩, (((Below.refl _ _).alloc (Nat.le_refl _) _).alloc (by simp) _).alloc (by simp; omega) _⟩
  case round =>
    obtain ⟨k, hk, rfl, ⟨cs, hm, hs⟩, ht, ⟨cs2, hcs2, hs2⟩, hb⟩ := hrel
    by_cases hlt : k < 16
    · have hcell : wr.cell? ⟨w.heap.size, k, none⟩ = some (.int .u64 ((wd N k : Nat) : Int)) := (cell_of_row wr _ _ _ _ _ hs).trans ((hm.2 k hlt).trans (by rw [if_neg (Nat.lt_irrefl _)]))
      have hcell2 : wr.cell? ⟨w.heap.size + 1, k, none⟩ = some (.int .u64 ((wd M k : Nat) : Int)) := (cell_of_row wr _ _ _ _ _ ht).trans (setA_get M k hlt)
      have hfr : wr.frozen? ⟨w.heap.size, k, none⟩ = false := frozen_of_row wr _ _ _ _ hs
      have hop := and_u64 (wd_lt N k) (wd_lt M k)
      have HX : Hid (((andW (wd N k) (wd M k) : Nat) : Int) = ((wd (N &&& M) k : Nat) : Int)) := by rw [wd_and]; rfl
      go_wp2
      go_region
      go_wp2
      go_roundw
      case rel =>
        refine ⟨k + 1, by omega, by go_num, ⟨_, hm.step hlt HX.out, blk_set hs⟩, (blk_far (by simp)).trans ht, ⟨cs2, hcs2, (blk_far (by simp)).trans hs2⟩, (hb.setCell (by simp) _).drew⟩
      case measure => simp [intOf]; omega
    · obtain rfl : k = 16 := by omega
      obtain rfl := hm.done
      go_wp2_with (first | (refine wpList_load_row rfl _ _ rfl _ rfl _ _ _ _ hs Tryd.underlying27 rfl (szSetA _) ?_) | (refine wpList_store_row rfl _ _ _ rfl _ _ rfl rfl _ _ hs2 (szSetA _) (by rw [setA_size]; exact hcs2) (oneCell_setA _) ?_))
      exact bodyPost_ret (results_cell_row rfl _ _ _ _ _ _ _ rfl (blk_setRow hs2) Tryd.underlying27 rfl (szSetA _)) rfl ⟨rfl, below_setRow hb (by omega) _⟩

end Go.Proofs.YtjichaeegheacaaDoor
