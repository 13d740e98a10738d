
/-
  Sets of the numbers 0 to 1023 as one natural number below 2^1024, and as the sixteen words that the program holds. Plain Lean: no program in sight.
-/
import Derived.RowKit3
namespace Go.Proofs.Ytjichaeegheacaa
open Go

/-- Word i of a set. -/
def wd (N i : Nat) : Nat := (N >>> (64 * i)) % 2 ^ 64

theorem wd_lt (N i : Nat) : wd N i < 18446744073709551616 := Nat.mod_lt _ (by decide)

theorem testBit_wd (N i j : Nat) : (wd N i).testBit j = (decide (j < 64) && N.testBit (64 * i + j)) := by
  unfold wd
  rw [Nat.testBit_mod_two_pow, Nat.testBit_shiftRight]

/-- The cells of a set. -/
def setA (N : Nat) : Array Value := ((List.range 16).map fun i => Value.int .u64 ((wd N i : Nat) : Int)).toArray

theorem setA_size (N : Nat) : (setA N).size = 16 := by simp [setA]

theorem setA_get (N i : Nat) (h : i < 16) : (setA N)[i]? = some (.int .u64 ((wd N i : Nat) : Int)) := by
  simp [setA, h]

theorem setA_of {A : Array Value} {N : Nat} (hs : A.size = 16) (h : ∀ i, i < 16 → A[i]? = some (.int .u64 ((wd N i : Nat) : Int))) : A = setA N := by
  apply Array.ext
  · rw [hs, setA_size]
  · intro i h1 h2
    have a := h i (by omega)
    have b := setA_get N i (by omega)
    rw [Array.getElem?_eq_getElem h1] at a
    rw [Array.getElem?_eq_getElem h2] at b
    exact Option.some.inj (a.trans b.symm)

/-- No number above 1023. -/
def Sm (N : Nat) : Prop := ∀ j, 1024 ≤ j → N.testBit j = false

/-- Two sets are one just if their numbers are. -/
theorem set_ext {N M : Nat} (hN : Sm N) (hM : Sm M) (h : ∀ n, n < 1024 → N.testBit n = M.testBit n) : N = M := by
  apply Nat.eq_of_testBit_eq
  intro n
  by_cases hn : n < 1024
  · exact h n hn
  · rw [hN n (by omega), hM n (by omega)]

theorem bit_of_wd (N n : Nat) : N.testBit n = (wd N (n / 64)).testBit (n % 64) := by
  rw [testBit_wd, decide_eq_true (Nat.mod_lt _ (by decide)), Bool.true_and]
  congr 1
  omega

theorem setA_inj {N M : Nat} (hN : Sm N) (hM : Sm M) (h : setA N = setA M) : N = M := by
  apply set_ext hN hM
  intro n hn
  have a := setA_get N (n / 64) (by omega)
  rw [h, setA_get M (n / 64) (by omega)] at a
  injection a with a
  injection a with _ a
  rw [bit_of_wd N n, bit_of_wd M n, Int.ofNat.inj a]

/-- One number more; one number less. -/
def addN (N n : Nat) : Nat := N ||| (1 <<< n)
def delN (N n : Nat) : Nat := N ^^^ (N &&& (1 <<< n))

theorem testBit_one_shl (n j : Nat) : (1 <<< n).testBit j = decide (n = j) := by
  rw [Nat.testBit_shiftLeft]
  by_cases h : n ≤ j
  · by_cases e : n = j
    · subst e; simp
    · have : 0 < j - n := by omega
      obtain ⟨k, hk⟩ : ∃ k, j - n = k + 1 := ⟨j - n - 1, by omega⟩
      have h1 : Nat.testBit 1 (k + 1) = false := by rw [Nat.testBit_succ]; simp
      simp [h, e, hk, h1]
  · have : n ≠ j := by omega
    simp [h, this]

theorem testBit_addN (N n j : Nat) : (addN N n).testBit j = (N.testBit j || decide (n = j)) := by
  unfold addN; rw [Nat.testBit_or, testBit_one_shl]

theorem testBit_delN (N n j : Nat) : (delN N n).testBit j = (N.testBit j && !decide (n = j)) := by
  unfold delN; rw [Nat.testBit_xor, Nat.testBit_and, testBit_one_shl]
  cases N.testBit j <;> cases decide (n = j) <;> rfl

theorem sm_zero : Sm 0 := fun j _ => Nat.zero_testBit j
theorem addN_sm {N n : Nat} (hN : Sm N) (h : n < 1024) : Sm (addN N n) := fun j hj => by
  have : ¬ (n = j) := by omega
  rw [testBit_addN, hN j hj]; simp [this]
theorem delN_sm {N : Nat} (n : Nat) (hN : Sm N) : Sm (delN N n) := fun j hj => by rw [testBit_delN, hN j hj]; rfl
theorem or_sm {N M : Nat} (hN : Sm N) (hM : Sm M) : Sm (N ||| M) := fun j hj => by rw [Nat.testBit_or, hN j hj, hM j hj]; rfl
theorem and_sm {N : Nat} (M : Nat) (hN : Sm N) : Sm (N &&& M) := fun j hj => by rw [Nat.testBit_and, hN j hj]; rfl

theorem wd_addN (N n i : Nat) : wd (addN N n) i = if i = n / 64 then wd N i ||| (1 <<< (n % 64)) else wd N i := by
  apply Nat.eq_of_testBit_eq
  intro j
  rw [testBit_wd, testBit_addN]
  split
  · rename_i h
    rw [Nat.testBit_or, testBit_wd, testBit_one_shl]
    by_cases hj : j < 64
    · have : decide (n = 64 * i + j) = decide (n % 64 = j) := by
        rw [decide_eq_decide]; omega
      simp [hj, this]
    · have : ¬ (n % 64 = j) := by omega
      simp [hj, this]
  · rename_i h
    rw [testBit_wd]
    by_cases hj : j < 64
    · have : ¬ (n = 64 * i + j) := by omega
      simp [this]
    · simp [hj]

theorem wd_delN (N n i : Nat) : wd (delN N n) i = if i = n / 64 then wd N i ^^^ (wd N i &&& (1 <<< (n % 64))) else wd N i := by
  apply Nat.eq_of_testBit_eq
  intro j
  rw [testBit_wd, testBit_delN]
  split
  · rename_i h
    rw [Nat.testBit_xor, Nat.testBit_and, testBit_wd, testBit_one_shl]
    by_cases hj : j < 64
    · have : decide (n = 64 * i + j) = decide (n % 64 = j) := by
        rw [decide_eq_decide]; omega
      simp only [hj, this, decide_true, Bool.true_and]
      cases N.testBit (64 * i + j) <;> cases decide (n % 64 = j) <;> rfl
    · simp [hj]
  · rename_i h
    rw [testBit_wd]
    by_cases hj : j < 64
    · have : ¬ (n = 64 * i + j) := by omega
      simp [this]
    · simp [hj]

theorem wd_or (N M i : Nat) : wd (N ||| M) i = wd N i ||| wd M i := by
  apply Nat.eq_of_testBit_eq; intro j
  rw [testBit_wd, Nat.testBit_or, Nat.testBit_or, testBit_wd, testBit_wd]
  cases decide (j < 64) <;> simp

theorem wd_and (N M i : Nat) : wd (N &&& M) i = wd N i &&& wd M i := by
  apply Nat.eq_of_testBit_eq; intro j
  rw [testBit_wd, Nat.testBit_and, Nat.testBit_and, testBit_wd, testBit_wd]
  cases decide (j < 64) <;> simp

/-- What one has and another one has not. -/
def lessN (N M : Nat) : Nat := N ^^^ (N &&& M)
theorem testBit_lessN (N M j : Nat) : (lessN N M).testBit j = (N.testBit j && !M.testBit j) := by
  unfold lessN; rw [Nat.testBit_xor, Nat.testBit_and]
  cases N.testBit j <;> cases M.testBit j <;> rfl
theorem wd_less (N M i : Nat) : wd (lessN N M) i = wd N i ^^^ (wd N i &&& wd M i) := by
  apply Nat.eq_of_testBit_eq; intro j
  rw [testBit_wd, testBit_lessN, Nat.testBit_xor, Nat.testBit_and, testBit_wd, testBit_wd]
  cases decide (j < 64) <;> cases N.testBit (64 * i + j) <;> cases M.testBit (64 * i + j) <;> rfl
theorem less_sm {N : Nat} (M : Nat) (hN : Sm N) : Sm (lessN N M) := fun j hj => by rw [testBit_lessN, hN j hj]; rfl

/-- Numbers that are in no set change nothing. -/
def inR (n : Int) : Bool := decide (0 ≤ n ∧ n < 1024)
def withI (N : Nat) (n : Int) : Nat := if inR n then addN N n.toNat else N
def outI (N : Nat) (n : Int) : Nat := if inR n then delN N n.toNat else N
def withL (N : Nat) (l : List Int) : Nat := l.foldl withI N
def outL (N : Nat) (l : List Int) : Nat := l.foldl outI N

theorem inR_iff (n : Int) : inR n = true ↔ 0 ≤ n ∧ n < 1024 := by simp [inR]

theorem withI_sm {N : Nat} (n : Int) (hN : Sm N) : Sm (withI N n) := by
  unfold withI; split
  · rename_i h; rw [inR_iff] at h; exact addN_sm hN (by omega)
  · exact hN
theorem outI_sm {N : Nat} (n : Int) (hN : Sm N) : Sm (outI N n) := by
  unfold outI; split
  · exact delN_sm _ hN
  · exact hN
theorem withL_sm (l : List Int) : ∀ {N : Nat}, Sm N → Sm (withL N l) := by
  induction l with
  | nil => intro N h; exact h
  | cons x l ih => intro N h; exact ih (withI_sm x h)
theorem outL_sm (l : List Int) : ∀ {N : Nat}, Sm N → Sm (outL N l) := by
  induction l with
  | nil => intro N h; exact h
  | cons x l ih => intro N h; exact ih (outI_sm x h)

theorem testBit_withI (N : Nat) (n : Int) {j : Nat} (hj : j < 1024) : (withI N n).testBit j = (N.testBit j || decide (n = (j : Int))) := by
  unfold withI; split
  · rename_i h; rw [inR_iff] at h
    rw [testBit_addN]
    have : decide (n.toNat = j) = decide (n = (j : Int)) := by rw [decide_eq_decide]; omega
    rw [this]
  · rename_i h; rw [inR_iff] at h
    have : ¬ (n = (j : Int)) := by omega
    simp [this]
theorem testBit_outI (N : Nat) (n : Int) {j : Nat} (hj : j < 1024) : (outI N n).testBit j = (N.testBit j && !decide (n = (j : Int))) := by
  unfold outI; split
  · rename_i h; rw [inR_iff] at h
    rw [testBit_delN]
    have : decide (n.toNat = j) = decide (n = (j : Int)) := by rw [decide_eq_decide]; omega
    rw [this]
  · rename_i h; rw [inR_iff] at h
    have : ¬ (n = (j : Int)) := by omega
    simp [this]
theorem testBit_withL (l : List Int) {j : Nat} (hj : j < 1024) : ∀ N : Nat, (withL N l).testBit j = (N.testBit j || l.contains (j : Int)) := by
  induction l with
  | nil => intro N; simp [withL]
  | cons x l ih =>
    intro N
    show (withL (withI N x) l).testBit j = _
    rw [ih, testBit_withI N x hj, List.contains_cons, Bool.or_assoc]
    congr 2
    rw [Bool.eq_iff_iff]; simp; exact eq_comm
theorem testBit_outL (l : List Int) {j : Nat} (hj : j < 1024) : ∀ N : Nat, (outL N l).testBit j = (N.testBit j && !l.contains (j : Int)) := by
  induction l with
  | nil => intro N; simp [outL]
  | cons x l ih =>
    intro N
    show (outL (outI N x) l).testBit j = _
    rw [ih, testBit_outI N x hj, List.contains_cons, Bool.and_assoc, Bool.not_or]
    congr 2
    congr 1
    rw [Bool.eq_iff_iff]; simp; exact eq_comm

theorem withL_take_succ (N : Nat) (l : List Int) (k : Nat) (h : k < l.length) : withL N (l.take (k + 1)) = withI (withL N (l.take k)) (l[k]?.getD 0) := by
  rw [List.take_succ_eq_append_getElem h, withL, List.foldl_append]
  simp [withL, List.getElem?_eq_getElem h]
theorem outL_take_succ (N : Nat) (l : List Int) (k : Nat) (h : k < l.length) : outL N (l.take (k + 1)) = outI (outL N (l.take k)) (l[k]?.getD 0) := by
  rw [List.take_succ_eq_append_getElem h, outL, List.foldl_append]
  simp [outL, List.getElem?_eq_getElem h]

end Go.Proofs.Ytjichaeegheacaa
