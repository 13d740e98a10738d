
/-
  The package bits, function by function: what each of its calls answers, and that nothing that was there is turned.
-/
import Derived.Test.YtjichaeegheacaaBase
import Derived.Test.YtjichaeegheacaaProg
namespace Go.Proofs.Ytjichaeegheacaa
open Go Go.RowKit

abbrev tSet : Nat := 75
theorem szSet : (Try.prog.info? 75).map (·.size) = some 16 := by kernel_rfl
theorem szSetA (N : Nat) : (Try.prog.info? 75).map (·.size) = some (setA N).size := by rw [setA_size]; exact szSet

/-- What a call that only makes memory answers. -/
def Fresh (w : World) (v : Value) (e : Ending) (w' : World) : Prop := e = .returned v ∧ Below w.heap.size w w'

set_option maxHeartbeats 400000 in
theorem With_any (N : Nat) (A : Option Addr) (c : Nat) (xs : List Int) (w : World) (hr : RI w A xs) :
    Calls Try.prog 34 #[.agg (setA N), .slice A xs.length c] w (Fresh w (.agg (setA (withL N xs)))) := by
  have hlen := hr.len
  go_enter Try.func34, Try.ntmps34
  go_wp2
  go_loopw [9] (fun i wr => ∃ k : Nat, k ≤ xs.length ∧ i = .int .i64 k ∧ wr.heap[w.heap.size]? = some (.cells (setA (withL N (xs.take k))) 75 (0, 0)) ∧ (∃ cs : Array Value, cs.size = 16 ∧ wr.heap[w.heap.size + 1]? = some (.cells cs 75 (0, 0))) ∧ Below w.heap.size w wr) (fun i _ => xs.length - (intOf i).toNat)
  case atStart => exact ⟨0, Nat.zero_le _, rfl, (blk_old _ _ (by simp)).trans (blk_new w _), ⟨_, by rfl, blk_new1 w _ _⟩, ((Below.refl _ _).alloc (Nat.le_refl _) _).alloc (by simp) _⟩
  case round =>
    obtain ⟨k, hk, rfl, hs, ⟨cs, hcs, hs2⟩, hb⟩ := hrel
    by_cases hlt : k < xs.length
    · obtain ⟨b, off, rfl, hbl, hck, hx⟩ := (hr.below hb).at_ hlt
      have HS : Hid (withL N (xs.take (k + 1)) = withI (withL N (xs.take k)) (gI xs k)) := withL_take_succ N xs k hlt
      generalize gI xs k = x at *
      by_cases hin : inR x = true
      · have hx' := (inR_iff x).1 hin
        have hw := wrap_u64_in x hx'.1 (by omega)
        have hand := and63 x hx'.1 hx'.2
        have hshl := shl_one (x % 64).toNat (by omega)
        have hor := or_u64 (wd_lt (withL N (xs.take k)) (x / 64).toNat) (bitW_lt (k := (x % 64).toNat) (by omega))
        have hcell : wr.cell? ⟨w.heap.size, (x / 64).toNat, none⟩ = some (.int .u64 ((wd (withL N (xs.take k)) (x / 64).toNat : Nat) : Int)) := (cell_of_row wr _ _ _ _ _ hs).trans (setA_get _ _ (by omega))
        have hfr : wr.frozen? ⟨w.heap.size, (x / 64).toNat, none⟩ = false := frozen_of_row wr _ _ _ _ hs
        have HA : Hid ((setA (withL N (xs.take k))).setIfInBounds (x / 64).toNat (.int .u64 ((orW (wd (withL N (xs.take k)) (x / 64).toNat) (bitW (x % 64).toNat) : Nat) : Int)) = setA (addN (withL N (xs.take k)) x.toNat)) := by
          have h1 : (x / 64).toNat = x.toNat / 64 := by omega
          have h2 : (x % 64).toNat = x.toNat % 64 := by omega
          rw [h1, h2]; exact setA_add
        go_wp2
        go_region
        go_wp2
        go_roundw
        case rel =>
          refine ⟨k + 1, by omega, by go_num, ?_, ⟨cs, hcs, ?_⟩, (hb.setCell (by simp) _).drew⟩
          · rw [HS.out, withI, if_pos hin, ← HA.out]; exact blk_set hs
          · exact (blk_far (by simp)).trans hs2
        case measure => simp [intOf]; omega
      · have hw := wrap_u64_out x hx (by simpa using hin)
        go_wp2
        go_roundw
        case rel => exact ⟨k + 1, by omega, by go_num, by rw [HS.out, withI, if_neg hin]; exact hs, ⟨cs, hcs, hs2⟩, hb⟩
        case measure => simp [intOf]; omega
    · have e : xs.take k = xs := List.take_of_length_le (by omega)
      rw [e] at hs
      go_wp2_with (first | (refine wpList_load_row rfl _ _ rfl _ rfl _ _ _ _ hs Try.underlying75 rfl (szSetA _) ?_) | (refine wpList_store_row rfl _ _ _ rfl _ _ rfl rfl _ _ hs2 (szSetA _) (by rw [setA_size]; exact hcs) (oneCell_setA _) ?_))
      exact bodyPost_ret (results_cell_row rfl _ _ _ _ _ _ _ rfl (blk_setRow hs2) Try.underlying75 rfl (szSetA _)) rfl ⟨rfl, below_setRow hb (by omega) _⟩

set_option maxHeartbeats 400000 in
theorem Has_any (N : Nat) (n : Int) (w : World) (hn : I64 n) :
    Calls Try.prog 33 #[.agg (setA N), .int .i64 n] w (Fresh w (.bool (inR n && N.testBit n.toNat))) := by
  by_cases hin : inR n = true
  · have hx' := (inR_iff n).1 hin
    have hw := wrap_u64_in n hx'.1 (by omega)
    have hand := and63 n hx'.1 hx'.2
    have hg := setA_get N (n / 64).toNat (by omega)
    have hq := has_bit (wd N (n / 64).toNat) (n % 64).toNat (wd_lt _ _)
    have HB : Hid ((wd N (n / 64).toNat).testBit (n % 64).toNat = N.testBit n.toNat) := by
      have h1 : (n / 64).toNat = n.toNat / 64 := by omega
      have h2 : (n % 64).toNat = n.toNat % 64 := by omega
      rw [h1, h2]; exact (bit_of_wd N n.toNat).symm
    go_enter Try.func33, Try.ntmps33
    go_wp2
    go_ret
    exact ⟨by simp [hin, HB.out], (Below.refl _ _).alloc (Nat.le_refl _) _⟩
  · have hw := wrap_u64_out n hn (by simpa using hin)
    go_enter Try.func33, Try.ntmps33
    go_wp2
    go_ret
    exact ⟨by simp [hin], (Below.refl _ _).alloc (Nat.le_refl _) _⟩

end Go.Proofs.Ytjichaeegheacaa
