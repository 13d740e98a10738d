
/-
  The numbers of a set, rising; its least one; how many there are: read off word by word, bit by bit. Plain Lean: no program in sight.
-/
import Derived.Test.YtjichaeegheacaaBase
import Derived.Lib.TrailingZeros
namespace Go.Proofs.Ytjichaeegheacaa
open Go

/-- The numbers of a set below m, rising. -/
def upTo (N m : Nat) : List Int := ((List.range m).filter (fun j => N.testBit j)).map Int.ofNat

theorem upTo_zero (N : Nat) : upTo N 0 = [] := rfl
theorem upTo_succ (N m : Nat) : upTo N (m + 1) = if N.testBit m then upTo N m ++ [(m : Int)] else upTo N m := by
  unfold upTo
  rw [List.range_succ, List.filter_append]
  by_cases h : N.testBit m
  · simp [h]
  · simp [h]
theorem upTo_skip (N : Nat) {a : Nat} : ∀ d, (∀ j, a ≤ j → j < a + d → N.testBit j = false) → upTo N (a + d) = upTo N a
  | 0, _ => rfl
  | d + 1, h => by
    rw [← Nat.add_assoc, upTo_succ, h (a + d) (by omega) (by omega)]
    simpa using upTo_skip N d (fun j h1 h2 => h j h1 (by omega))
theorem mem_upTo (N m : Nat) (x : Int) : x ∈ upTo N m ↔ ∃ j, j < m ∧ N.testBit j = true ∧ x = (j : Int) := by
  unfold upTo
  simp only [List.mem_map, List.mem_filter, List.mem_range]
  constructor
  · rintro ⟨j, ⟨h1, h2⟩, rfl⟩; exact ⟨j, h1, h2, rfl⟩
  · rintro ⟨j, h1, h2, rfl⟩; exact ⟨j, ⟨h1, h2⟩, rfl⟩
theorem upTo_len (N m : Nat) : (upTo N m).length ≤ m := by
  unfold upTo
  rw [List.length_map]
  exact Nat.le_trans (List.length_filter_le _ _) (by simp)
theorem upTo_i64 {N m : Nat} (hm : m ≤ 1024) : ∀ x ∈ upTo N m, I64 x := by
  intro x hx
  obtain ⟨j, h1, _, rfl⟩ := (mem_upTo N m x).1 hx
  exact ⟨by omega, by omega⟩

/-- The lowest bit of a word. -/
theorem low_bit {v : Nat} (h0 : v ≠ 0) (h : v < 18446744073709551616) : ∃ q m, Lib.ctz 64 v = q ∧ q < 64 ∧ v = 2 ^ q * (2 * m + 1) := by
  obtain ⟨m, hm, hk⟩ := Lib.ctzFrom_spec 64 v (by omega) (by exact h)
  exact ⟨_, m, by simp [Lib.ctz, h0], hk, hm⟩
theorem low_test (q m j : Nat) : (2 ^ q * (2 * m + 1)).testBit j = (decide (q ≤ j) && (decide (j = q) || (2 ^ q * (2 * m + 1)).testBit j)) := by
  rw [Nat.mul_comm, Nat.testBit_mul_two_pow]
  by_cases h : q ≤ j
  · by_cases e : j = q
    · subst e; simp
    · simp [h, e]
  · simp [h]
/-- A word without its lowest bit. -/
theorem low_gone (q m j : Nat) : ((2 ^ q * (2 * m + 1)) &&& (2 ^ q * (2 * m + 1) - 1)).testBit j = ((2 ^ q * (2 * m + 1)).testBit j && !decide (j = q)) := by
  have e1 : 2 ^ q * (2 * m + 1) = 2 ^ (q + 1) * m + 2 ^ q := by rw [Nat.pow_succ, Nat.mul_add, Nat.mul_one, ← Nat.mul_assoc, Nat.mul_assoc (2 ^ q) 2 m]
  have hp : 0 < 2 ^ q := Nat.two_pow_pos q
  have e2 : 2 ^ q * (2 * m + 1) - 1 = 2 ^ (q + 1) * m + (2 ^ q - 1) := by rw [e1]; omega
  rw [Nat.testBit_and]
  by_cases hj : j < q
  · have h1 : decide (q ≤ j) = false := decide_eq_false (by omega)
    rw [low_test, h1]; rfl
  · by_cases hq : j = q
    · subst hq
      have : (2 ^ j * (2 * m + 1) - 1).testBit j = false := by
        rw [e2, Nat.testBit_two_pow_mul_add _ (by rw [Nat.pow_succ]; omega)]
        rw [if_pos (by omega)]
        exact Nat.testBit_lt_two_pow (by omega)
      simp [this]
    · have : (2 ^ q * (2 * m + 1) - 1).testBit j = (2 ^ q * (2 * m + 1)).testBit j := by
        rw [e2, e1, Nat.testBit_two_pow_mul_add _ (by rw [Nat.pow_succ]; omega), Nat.testBit_two_pow_mul_add _ (by rw [Nat.pow_succ]; omega)]
        rw [if_neg (by omega), if_neg (by omega)]
      rw [this]; simp [hq]

/-- A word less one. -/
def prW (v : Nat) : Nat := v - 1
theorem prW_u64 {v : Nat} (h0 : v ≠ 0) (h : v < 18446744073709551616) : IntKind.u64.wrap ((v : Int) - 1) = ((prW v : Nat) : Int) := by
  unfold prW
  rw [wrap_u64_in _ (by omega) (by omega)]; omega
theorem prW_lt {v : Nat} (h : v < 18446744073709551616) : prW v < 18446744073709551616 := by unfold prW; omega

/-- What is left of word k of N: its bits from p on. -/
def Left (N k p v : Nat) : Prop := v < 18446744073709551616 ∧ ∀ j, v.testBit j = (decide (p ≤ j) && (wd N k).testBit j)
theorem Left.start (N k : Nat) : Left N k 0 (wd N k) := ⟨wd_lt N k, fun j => by simp⟩
theorem Left.zero {N k p : Nat} (hp : p ≤ 64) (h : Left N k p 0) : upTo N (64 * (k + 1)) = upTo N (64 * k + p) := by
  have e : 64 * (k + 1) = (64 * k + p) + (64 - p) := by omega
  rw [e]
  refine upTo_skip N _ (fun j h1 h2 => ?_)
  have hb := h.2 (j - 64 * k)
  rw [Nat.zero_testBit, testBit_wd] at hb
  have e2 : 64 * k + (j - 64 * k) = j := by omega
  rw [e2] at hb
  have h3 : p ≤ j - 64 * k := by omega
  have h4 : j - 64 * k < 64 := by omega
  simp only [h3, h4, decide_true, Bool.true_and] at hb
  exact hb.symm
theorem Left.next {N k p v : Nat} (h : Left N k p v) (h0 : v ≠ 0) :
    ∃ q, Lib.ctz 64 v = q ∧ p ≤ q ∧ q < 64 ∧ upTo N (64 * k + (q + 1)) = upTo N (64 * k + p) ++ [(k : Int) * 64 + (q : Int)] ∧ Left N k (q + 1) (andW v (prW v)) ∧ andW v (prW v) < v := by
  obtain ⟨q, m, hq, hlt, hv⟩ := low_bit h0 h.1
  have hbit : v.testBit q = true := by rw [hv, low_test]; simp
  have hlow : ∀ j, j < q → v.testBit j = false := fun j hj => by
    have h1 : decide (q ≤ j) = false := decide_eq_false (by omega)
    rw [hv, low_test, h1]; rfl
  have hb := h.2 q
  rw [hbit] at hb
  have hpq : p ≤ q := by
    by_cases e : p ≤ q
    · exact e
    · simp [e] at hb
  simp only [hpq, decide_true, Bool.true_and, testBit_wd, hlt] at hb
  have hprev : andW v (prW v) < v := by
    have : andW v (prW v) ≤ prW v := Nat.and_le_right
    unfold prW at *
    omega
  refine ⟨q, hq, hpq, hlt, ?_, ⟨Nat.lt_of_le_of_lt (Nat.and_le_left) h.1, fun j => ?_⟩, hprev⟩
  · rw [← Nat.add_assoc, upTo_succ, ← hb, if_pos rfl, show (k : Int) * 64 + (q : Int) = ((64 * k + q : Nat) : Int) by omega]
    congr 1
    have e : 64 * k + q = (64 * k + p) + (q - p) := by omega
    rw [e]
    refine upTo_skip N _ (fun j h1 h2 => ?_)
    have hb2 := h.2 (j - 64 * k)
    rw [hlow _ (by omega), testBit_wd] at hb2
    have e2 : 64 * k + (j - 64 * k) = j := by omega
    rw [e2] at hb2
    have h3 : p ≤ j - 64 * k := by omega
    have h4 : j - 64 * k < 64 := by omega
    simp only [h3, h4, decide_true, Bool.true_and] at hb2
    exact hb2.symm
  · unfold andW prW
    rw [hv, low_gone, ← hv, h.2 j]
    by_cases e : q + 1 ≤ j
    · have : p ≤ j := by omega
      have : ¬ j = q := by omega
      simp [*]
    · by_cases e2 : j = q
      · subst e2; simp; omega
      · have hl := hlow j (by omega)
        rw [h.2 j] at hl
        simp [hl, e]
theorem upTo_le (N : Nat) {a b : Nat} (h : a ≤ b) : ∃ r, upTo N b = upTo N a ++ r := by
  obtain ⟨d, rfl⟩ : ∃ d, b = a + d := ⟨b - a, by omega⟩
  clear h
  induction d with
  | zero => exact ⟨[], by simp⟩
  | succ d ih =>
    obtain ⟨r, hr⟩ := ih
    rw [← Nat.add_assoc, upTo_succ]
    by_cases e : N.testBit (a + d)
    · rw [if_pos e, hr]; exact ⟨r ++ [((a + d : Nat) : Int)], by simp⟩
    · rw [if_neg e]; exact ⟨r, hr⟩

end Go.Proofs.Ytjichaeegheacaa
