
/-
  Law 11: has; dom.Of of a function that is not closed; dom.Both.
-/
import Derived.Test.YtjichaeegheacaaDom
namespace Go.Proofs.Ytjichaeegheacaa
open Go Go.RowKit

theorem take_has {xs : List Int} {k : Nat} (hk : k < xs.length) (n : Int) (h : (xs.take k).contains n = false) (hne : gI xs k ≠ n) : (xs.take (k + 1)).contains n = false := by
  rw [List.take_succ_eq_append_getElem hk, ← gI_eq hk]
  cases hc : (xs.take k ++ [gI xs k]).contains n with
  | false => rfl
  | true =>
    rw [List.contains_iff_mem, List.mem_append] at hc
    rcases hc with hc | hc
    · rw [List.contains_iff_mem.2 hc] at h; cases h
    · simp at hc; exact absurd hc.symm hne

set_option maxRecDepth 100000 in
set_option maxHeartbeats 1000000 in
theorem has11_any (A : Option Addr) (c : Nat) (xs : List Int) (n : Int) (w : World) (hr : RI w A xs) :
    Calls Try.prog 10 #[.slice A xs.length c, .int .i64 n] w fun e w' => e = .returned (.bool (xs.contains n)) ∧ w' = w := by
  have hl := hr.len
  go_enter Try.func10, Try.ntmps10
  go_wp2
  go_loopw [5] (fun i W => ∃ k : Nat, k ≤ xs.length ∧ i = .int .i64 k ∧ (xs.take k).contains n = false ∧ W = w) (fun i _ => xs.length - (intOf i).toNat)
  case atStart => exact ⟨0, Nat.zero_le _, rfl, rfl, rfl⟩
  case round =>
    obtain ⟨k, hk, rfl, hn, rfl⟩ := hrel
    by_cases hlt : k < xs.length
    · obtain ⟨b, off, rfl, hbl, hcell, hx⟩ := hr.at_ hlt
      have hd : decide ((k : Int) < (xs.length : Int)) = true := decide_eq_true (by omega)
      by_cases he : gI xs k = n
      · have hp : xs.contains n = true := by rw [← he]; exact List.contains_iff_mem.2 (gI_mem hlt)
        have hp' := Lib.hid hp
        have he' : (gI xs k == n) = true := by simpa using he
        clear hp hn
        rw [he] at hcell
        clear he he'
        go_wp2
        go_ret
        exact ⟨by rw [hp'.out]; rfl, rfl⟩
      · have hn2 := take_has hlt n hn he
        have he' : (gI xs k == n) = false := by simpa using he
        have hn3 := Lib.hid hn2
        clear hn hn2
        go_wp2
        go_roundw
        case rel => exact ⟨k + 1, by omega, by go_num, hn3.out, by trivial⟩
        case measure => simp [intOf]; omega
    · obtain rfl : k = xs.length := by omega
      have hd : decide ((xs.length : Int) < (xs.length : Int)) = false := by simp
      rw [List.take_length] at hn
      have hp' := Lib.hid hn
      clear hn
      go_wp2
      go_ret
      exact ⟨by rw [hp'.out]; rfl, rfl⟩

set_option maxRecDepth 100000 in
set_option maxHeartbeats 1000000 in
theorem DomOf_no (P : Value) (A : Option Addr) (c : Nat) (bs : List Blk) (w : World) (hr : RF w A bs) (hcl : closedB bs = false) :
    Calls Try.prog 15 #[.agg #[P, .slice A bs.length c]] w (Fresh w (.slice none 0 0)) := by
  have hb0 := (Below.refl w.heap.size w).alloc (Nat.le_refl _) (.cells #[P, .slice A bs.length c] 25)
  have hs := blk_new w (.cells #[P, .slice A bs.length c] 25)
  go_enter Try.func15, Try.ntmps15
  go_wp2_with (refine wpList_load_row rfl _ _ rfl _ rfl _ _ _ _ hs Try.underlying25 rfl (by kernel_rfl) ?_)
  refine (made_no P A c bs _ (hr.below hb0) hcl).mono ?_
  rintro e W1 ⟨rfl, hB⟩
  go_wp2
  rw [run_field_up]
  go_wp2
  go_ret
  exact ⟨rfl, hb0.trans (hB.mono hb0.size)⟩

end Go.Proofs.Ytjichaeegheacaa
