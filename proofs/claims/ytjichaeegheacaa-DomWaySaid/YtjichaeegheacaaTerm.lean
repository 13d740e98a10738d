
/-
  Package ir: ends of blocks: what none, variable, fits answer.
-/
import Derived.Test.YtjichaeegheacaaApp
namespace Go.Proofs.Ytjichaeegheacaa
open Go Go.RowKit

theorem noneLit_any (x : Int) (w : World) (hx : I64 x) :
    Calls Try.prog 44 #[.int .i64 x] w (fun e w' => e = .returned (.bool (x != 0)) ∧ w' = w) := by
  obtain ⟨h1, h2⟩ := hx
  by_cases h : x = 0
  · subst h
    go_enter Try.func44, Try.ntmps44
    go_wp2
    go_ret
    exact ⟨rfl, rfl⟩
  · have e : (x != 0) = true := by simpa using h
    rw [e]
    have hd : decide (x = 0) = false := decide_eq_false h
    go_enter Try.func44, Try.ntmps44
    go_wp2
    go_ret
    exact ⟨rfl, rfl⟩

theorem variable_any (x : Int) (w : World) (hx : I64 x) :
    Calls Try.prog 39 #[.int .i64 x] w (fun e w' => e = .returned (.bool (decide (1 ≤ x) && decide (x ≤ 200))) ∧ w' = w) := by
  obtain ⟨h1, h2⟩ := hx
  by_cases h : 1 ≤ x
  · have hd : decide (1 ≤ x) = true := decide_eq_true h
    have hd2 : decide (x ≥ 1) = true := decide_eq_true h
    rw [hd, Bool.true_and]
    go_enter Try.func39, Try.ntmps39
    go_wp2
    go_ret
    exact ⟨rfl, rfl⟩
  · have hd : decide (1 ≤ x) = false := decide_eq_false h
    have hd2 : decide (x ≥ 1) = false := decide_eq_false h
    rw [hd, Bool.false_and]
    go_enter Try.func39, Try.ntmps39
    go_wp2
    go_ret
    exact ⟨rfl, rfl⟩

theorem fits_any (b : Bool) (x : Int) (w : World) (hx : I64 x) :
    Calls Try.prog 40 #[.bool b, .int .i64 x] w (fun e w' => e = .returned (.bool (if b then decide (1 ≤ x) && decide (x ≤ 200) else decide (x = 0))) ∧ w' = w) := by
  cases b
  · go_enter Try.func40, Try.ntmps40
    obtain ⟨h1, h2⟩ := hx
    go_wp2
    go_ret
    exact ⟨rfl, rfl⟩
  · go_enter Try.func40, Try.ntmps40
    go_wp2_with fail
    refine (variable_any x w hx).mono ?_
    rintro e w' ⟨rfl, rfl⟩
    go_wp2
    go_ret
    exact ⟨rfl, rfl⟩

/-- The first k are all 0. -/
def Zeros (xs : List Int) (k : Nat) : Prop := ∀ i, i < k → gI xs i = 0

theorem IndexFunc_none (A : Option Addr) (c : Nat) (xs : List Int) (w : World) (hr : RI w A xs) :
    Calls Try.prog 45 #[.slice A xs.length c, .func (.func 44) #[] #[]] w (fun e w' => ∃ r : Int, e = .returned (.int .i64 r) ∧ w' = w ∧ (decide (r ≥ 0) = xs.any (· != 0))) := by
  go_enter Try.func45, Try.ntmps45
  have hl := hr.len
  go_wp2
  go_loopw [8] (fun r W => ∃ k : Nat, k ≤ xs.length ∧ r = .int .i64 k ∧ Zeros xs k ∧ W = w) (fun r _ => xs.length - (intOf r).toNat)
  case atStart => exact ⟨0, Nat.zero_le _, rfl, fun _ h => absurd h (Nat.not_lt_zero _), rfl⟩
  case round =>
    obtain ⟨k, hk, rfl, hz, rfl⟩ := hrel
    by_cases h1 : k < xs.length
    · have hd : decide ((k : Int) < (xs.length : Int)) = true := by simp [h1]
      obtain ⟨b, off, rfl, hlt, hcell, hx⟩ := hr.at_ h1
      by_cases h0 : gI xs k = 0
      · have hz' : Zeros xs (k + 1) := fun i hi => by
          by_cases e : i = k
          · rw [e]; exact h0
          · exact hz i (by omega)
        have q := noneLit_any 0 wr ⟨by decide, by decide⟩
        rw [show ((0 : Int) != 0) = false from rfl] at q
        go_wp2_with fail
        refine q.mono ?_
        rintro e w' ⟨rfl, rfl⟩
        go_wp2
        go_roundw
        case rel => exact ⟨k + 1, by omega, by go_num, hz', by trivial⟩
        case measure => simp [intOf]; omega
      · have q := noneLit_any (gI xs k) wr hx
        rw [show (gI xs k != 0) = true by simpa using h0] at q
        have hany : xs.any (· != 0) = true := by
          rw [List.any_eq_true]; exact ⟨gI xs k, gI_mem h1, by simpa using h0⟩
        have hany' := Lib.hid hany
        clear hany
        go_wp2_with fail
        refine q.mono ?_
        rintro e w' ⟨rfl, rfl⟩
        go_wp2
        go_ret
        exact ⟨k, rfl, rfl, by rw [hany'.out]; exact decide_eq_true (by omega)⟩
    · obtain rfl : k = xs.length := by omega
      have hd : decide ((xs.length : Int) < (xs.length : Int)) = false := by simp
      have hany : xs.any (· != 0) = false := by
        rw [List.any_eq_false]
        intro x hx
        obtain ⟨i, hi, rfl⟩ := List.mem_iff_getElem.1 hx
        have := hz i hi
        rw [gI_eq hi] at this
        simpa using this
      have hany' := Lib.hid hany
      clear hany
      go_wp2
      go_ret
      exact ⟨-1, rfl, rfl, by rw [hany'.out]; rfl⟩

theorem ContainsFunc_none (A : Option Addr) (c : Nat) (xs : List Int) (w : World) (hr : RI w A xs) :
    Calls Try.prog 43 #[.slice A xs.length c, .func (.func 44) #[] #[]] w (fun e w' => e = .returned (.bool (xs.any (· != 0))) ∧ w' = w) := by
  have q := IndexFunc_none A c xs w hr
  generalize xs.any (· != 0) = b at *
  go_enter Try.func43, Try.ntmps43
  go_wp2_with fail
  refine q.mono ?_
  rintro e w' ⟨r, rfl, rfl, hd⟩
  go_wp2
  go_ret
  exact ⟨rfl, rfl⟩

theorem none_any (A : Option Addr) (c : Nat) (xs : List Int) (w : World) (hr : RI w A xs) :
    Calls Try.prog 38 #[.slice A xs.length c] w (fun e w' => e = .returned (.bool (!xs.any (· != 0))) ∧ w' = w) := by
  have q := ContainsFunc_none A c xs w hr
  generalize xs.any (· != 0) = b at *
  go_enter Try.func38, Try.ntmps38
  go_wp2_with fail
  refine q.mono ?_
  rintro e w' ⟨rfl, rfl⟩
  cases b
  · go_wp2
    go_ret
    exact ⟨rfl, rfl⟩
  · go_wp2
    go_ret
    exact ⟨rfl, rfl⟩

end Go.Proofs.Ytjichaeegheacaa
