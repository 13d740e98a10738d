/-
  Sets Base BitsA BitsB Words Iter App Term Of
-/
import Derived.RowKit3
import Derived.WalkKit
import Derived.WalkLawsBesides
import Derived.WalkSpells
import Derived.KernelRfl
import Derived.Deep.QuietTactic
import Derived.BigQuiet
import Derived.Lib.Hide
import Derived.Test.YtjichaeegheacaaGreatDoorProg
import Derived.Lib.TrailingZeros
import Derived.RangeFuncBox
import Derived.RangeFuncNested
import Derived.RangeFuncLeaves
import Derived.Shelf.Abstract
import Derived.OwnWalkIn
import Derived.TacticsInMore
import Derived.LoopNIn
import Derived.LoopIn
import Derived.Maps.AppendAt
import Derived.Shelf.Spec.TrailingZeros
import Derived.Deep.AppendLies
import Derived.Deep.RegionLaw

/- Sets -/
/-
  Sets of the numbers 0 to 1023 as one natural number below 2^1024, and as the sixteen words that the program holds. Plain Lean: no program in sight.
-/
namespace Go.Proofs.YtjichaeegheacaaGreatDoor
open Go

/-- Word i of a set. -/
def wd (N i : Nat) : Nat := (N >>> (64 * i)) % 2 ^ 64

theorem wd_lt (N i : Nat) : wd N i < 18446744073709551616 := Nat.mod_lt _ (by decide)

theorem testBit_wd (N i j : Nat) : (wd N i).testBit j = (decide (j < 64) && N.testBit (64 * i + j)) := by
  unfold wd
  rw [Nat.testBit_mod_two_pow, Nat.testBit_shiftRight]

/-- The cells of a set. -/
def setA (N : Nat) : Array Value := ((List.range 16).map fun i => Value.int .u64 ((wd N i : Nat) : Int)).toArray

theorem setA_size (N : Nat) : (setA N).size = 16 := by simp [setA]

theorem setA_get (N i : Nat) (h : i < 16) : (setA N)[i]? = some (.int .u64 ((wd N i : Nat) : Int)) := by
  simp [setA, h]

theorem setA_of {A : Array Value} {N : Nat} (hs : A.size = 16) (h : ∀ i, i < 16 → A[i]? = some (.int .u64 ((wd N i : Nat) : Int))) : A = setA N := by
  apply Array.ext
  · rw [hs, setA_size]
  · intro i h1 h2
    have a := h i (by omega)
    have b := setA_get N i (by omega)
    rw [Array.getElem?_eq_getElem h1] at a
    rw [Array.getElem?_eq_getElem h2] at b
    exact Option.some.inj (a.trans b.symm)

/-- No number above 1023. -/
def Sm (N : Nat) : Prop := ∀ j, 1024 ≤ j → N.testBit j = false

/-- Two sets are one just if their numbers are. -/
theorem set_ext {N M : Nat} (hN : Sm N) (hM : Sm M) (h : ∀ n, n < 1024 → N.testBit n = M.testBit n) : N = M := by
  apply Nat.eq_of_testBit_eq
  intro n
  by_cases hn : n < 1024
  · exact h n hn
  · rw [hN n (by omega), hM n (by omega)]

theorem bit_of_wd (N n : Nat) : N.testBit n = (wd N (n / 64)).testBit (n % 64) := by
  rw [testBit_wd, decide_eq_true (Nat.mod_lt _ (by decide)), Bool.true_and]
  congr 1
  omega

theorem setA_inj {N M : Nat} (hN : Sm N) (hM : Sm M) (h : setA N = setA M) : N = M := by
  apply set_ext hN hM
  intro n hn
  have a := setA_get N (n / 64) (by omega)
  rw [h, setA_get M (n / 64) (by omega)] at a
  injection a with a
  injection a with _ a
  rw [bit_of_wd N n, bit_of_wd M n, Int.ofNat.inj a]

/-- One number more; one number less. -/
def addN (N n : Nat) : Nat := N ||| (1 <<< n)
def delN (N n : Nat) : Nat := N ^^^ (N &&& (1 <<< n))

theorem testBit_one_shl (n j : Nat) : (1 <<< n).testBit j = decide (n = j) := by
  rw [Nat.testBit_shiftLeft]
  by_cases h : n ≤ j
  · by_cases e : n = j
    · subst e; simp
    · have : 0 < j - n := by omega
      obtain ⟨k, hk⟩ : ∃ k, j - n = k + 1 := ⟨j - n - 1, by omega⟩
      have h1 : Nat.testBit 1 (k + 1) = false := by rw [Nat.testBit_succ]; simp
      simp [h, e, hk, h1]
  · have : n ≠ j := by omega
    simp [h, this]

theorem testBit_addN (N n j : Nat) : (addN N n).testBit j = (N.testBit j || decide (n = j)) := by
  unfold addN; rw [Nat.testBit_or, testBit_one_shl]

theorem testBit_delN (N n j : Nat) : (delN N n).testBit j = (N.testBit j && !decide (n = j)) := by
  unfold delN; rw [Nat.testBit_xor, Nat.testBit_and, testBit_one_shl]
  cases N.testBit j <;> cases decide (n = j) <;> rfl

theorem sm_zero : Sm 0 := fun j _ => Nat.zero_testBit j
theorem addN_sm {N n : Nat} (hN : Sm N) (h : n < 1024) : Sm (addN N n) := fun j hj => by
  have : ¬ (n = j) := by omega
  rw [testBit_addN, hN j hj]; simp [this]
theorem delN_sm {N : Nat} (n : Nat) (hN : Sm N) : Sm (delN N n) := fun j hj => by rw [testBit_delN, hN j hj]; rfl
theorem or_sm {N M : Nat} (hN : Sm N) (hM : Sm M) : Sm (N ||| M) := fun j hj => by rw [Nat.testBit_or, hN j hj, hM j hj]; rfl
theorem and_sm {N : Nat} (M : Nat) (hN : Sm N) : Sm (N &&& M) := fun j hj => by rw [Nat.testBit_and, hN j hj]; rfl

theorem wd_addN (N n i : Nat) : wd (addN N n) i = if i = n / 64 then wd N i ||| (1 <<< (n % 64)) else wd N i := by
  apply Nat.eq_of_testBit_eq
  intro j
  rw [testBit_wd, testBit_addN]
  split
  · rename_i h
    rw [Nat.testBit_or, testBit_wd, testBit_one_shl]
    by_cases hj : j < 64
    · have : decide (n = 64 * i + j) = decide (n % 64 = j) := by
        rw [decide_eq_decide]; omega
      simp [hj, this]
    · have : ¬ (n % 64 = j) := by omega
      simp [hj, this]
  · rename_i h
    rw [testBit_wd]
    by_cases hj : j < 64
    · have : ¬ (n = 64 * i + j) := by omega
      simp [this]
    · simp [hj]

theorem wd_delN (N n i : Nat) : wd (delN N n) i = if i = n / 64 then wd N i ^^^ (wd N i &&& (1 <<< (n % 64))) else wd N i := by
  apply Nat.eq_of_testBit_eq
  intro j
  rw [testBit_wd, testBit_delN]
  split
  · rename_i h
    rw [Nat.testBit_xor, Nat.testBit_and, testBit_wd, testBit_one_shl]
    by_cases hj : j < 64
    · have : decide (n = 64 * i + j) = decide (n % 64 = j) := by
        rw [decide_eq_decide]; omega
      simp only [hj, this, decide_true, Bool.true_and]
      cases N.testBit (64 * i + j) <;> cases decide (n % 64 = j) <;> rfl
    · simp [hj]
  · rename_i h
    rw [testBit_wd]
    by_cases hj : j < 64
    · have : ¬ (n = 64 * i + j) := by omega
      simp [this]
    · simp [hj]

theorem wd_or (N M i : Nat) : wd (N ||| M) i = wd N i ||| wd M i := by
  apply Nat.eq_of_testBit_eq; intro j
  rw [testBit_wd, Nat.testBit_or, Nat.testBit_or, testBit_wd, testBit_wd]
  cases decide (j < 64) <;> simp

theorem wd_and (N M i : Nat) : wd (N &&& M) i = wd N i &&& wd M i := by
  apply Nat.eq_of_testBit_eq; intro j
  rw [testBit_wd, Nat.testBit_and, Nat.testBit_and, testBit_wd, testBit_wd]
  cases decide (j < 64) <;> simp

/-- What one has and another one has not. -/
def lessN (N M : Nat) : Nat := N ^^^ (N &&& M)
theorem testBit_lessN (N M j : Nat) : (lessN N M).testBit j = (N.testBit j && !M.testBit j) := by
  unfold lessN; rw [Nat.testBit_xor, Nat.testBit_and]
  cases N.testBit j <;> cases M.testBit j <;> rfl
theorem wd_less (N M i : Nat) : wd (lessN N M) i = wd N i ^^^ (wd N i &&& wd M i) := by
  apply Nat.eq_of_testBit_eq; intro j
  rw [testBit_wd, testBit_lessN, Nat.testBit_xor, Nat.testBit_and, testBit_wd, testBit_wd]
  cases decide (j < 64) <;> cases N.testBit (64 * i + j) <;> cases M.testBit (64 * i + j) <;> rfl
theorem less_sm {N : Nat} (M : Nat) (hN : Sm N) : Sm (lessN N M) := fun j hj => by rw [testBit_lessN, hN j hj]; rfl

/-- Numbers that are in no set change nothing. -/
def inR (n : Int) : Bool := decide (0 ≤ n ∧ n < 1024)
def withI (N : Nat) (n : Int) : Nat := if inR n then addN N n.toNat else N
def outI (N : Nat) (n : Int) : Nat := if inR n then delN N n.toNat else N
def withL (N : Nat) (l : List Int) : Nat := l.foldl withI N
def outL (N : Nat) (l : List Int) : Nat := l.foldl outI N

theorem inR_iff (n : Int) : inR n = true ↔ 0 ≤ n ∧ n < 1024 := by simp [inR]

theorem withI_sm {N : Nat} (n : Int) (hN : Sm N) : Sm (withI N n) := by
  unfold withI; split
  · rename_i h; rw [inR_iff] at h; exact addN_sm hN (by omega)
  · exact hN
theorem outI_sm {N : Nat} (n : Int) (hN : Sm N) : Sm (outI N n) := by
  unfold outI; split
  · exact delN_sm _ hN
  · exact hN
theorem withL_sm (l : List Int) : ∀ {N : Nat}, Sm N → Sm (withL N l) := by
  induction l with
  | nil => intro N h; exact h
  | cons x l ih => intro N h; exact ih (withI_sm x h)
theorem outL_sm (l : List Int) : ∀ {N : Nat}, Sm N → Sm (outL N l) := by
  induction l with
  | nil => intro N h; exact h
  | cons x l ih => intro N h; exact ih (outI_sm x h)

theorem testBit_withI (N : Nat) (n : Int) {j : Nat} (hj : j < 1024) : (withI N n).testBit j = (N.testBit j || decide (n = (j : Int))) := by
  unfold withI; split
  · rename_i h; rw [inR_iff] at h
    rw [testBit_addN]
    have : decide (n.toNat = j) = decide (n = (j : Int)) := by rw [decide_eq_decide]; omega
    rw [this]
  · rename_i h; rw [inR_iff] at h
    have : ¬ (n = (j : Int)) := by omega
    simp [this]
theorem testBit_outI (N : Nat) (n : Int) {j : Nat} (hj : j < 1024) : (outI N n).testBit j = (N.testBit j && !decide (n = (j : Int))) := by
  unfold outI; split
  · rename_i h; rw [inR_iff] at h
    rw [testBit_delN]
    have : decide (n.toNat = j) = decide (n = (j : Int)) := by rw [decide_eq_decide]; omega
    rw [this]
  · rename_i h; rw [inR_iff] at h
    have : ¬ (n = (j : Int)) := by omega
    simp [this]
theorem testBit_withL (l : List Int) {j : Nat} (hj : j < 1024) : ∀ N : Nat, (withL N l).testBit j = (N.testBit j || l.contains (j : Int)) := by
  induction l with
  | nil => intro N; simp [withL]
  | cons x l ih =>
    intro N
    show (withL (withI N x) l).testBit j = _
    rw [ih, testBit_withI N x hj, List.contains_cons, Bool.or_assoc]
    congr 2
    rw [Bool.eq_iff_iff]; simp; exact eq_comm
theorem testBit_outL (l : List Int) {j : Nat} (hj : j < 1024) : ∀ N : Nat, (outL N l).testBit j = (N.testBit j && !l.contains (j : Int)) := by
  induction l with
  | nil => intro N; simp [outL]
  | cons x l ih =>
    intro N
    show (outL (outI N x) l).testBit j = _
    rw [ih, testBit_outI N x hj, List.contains_cons, Bool.and_assoc, Bool.not_or]
    congr 2
    congr 1
    rw [Bool.eq_iff_iff]; simp; exact eq_comm

theorem withL_take_succ (N : Nat) (l : List Int) (k : Nat) (h : k < l.length) : withL N (l.take (k + 1)) = withI (withL N (l.take k)) (l[k]?.getD 0) := by
  rw [List.take_succ_eq_append_getElem h, withL, List.foldl_append]
  simp [withL, List.getElem?_eq_getElem h]
theorem outL_take_succ (N : Nat) (l : List Int) (k : Nat) (h : k < l.length) : outL N (l.take (k + 1)) = outI (outL N (l.take k)) (l[k]?.getD 0) := by
  rw [List.take_succ_eq_append_getElem h, outL, List.foldl_append]
  simp [outL, List.getElem?_eq_getElem h]

end Go.Proofs.YtjichaeegheacaaGreatDoor

/- Base -/
/-
  Small words for the walks of this seat: what a slice of ints reads, blocks of the heap, the bit operations of uint64 and int on natural numbers. Nothing here names the program.
-/
namespace Go.Proofs.YtjichaeegheacaaGreatDoor
open Go Go.RowKit

/-- An int of Go's. -/
def I64 (n : Int) : Prop := -9223372036854775808 ≤ n ∧ n ≤ 9223372036854775807
/-- Element i of a list of ints. -/
def gI (xs : List Int) (i : Nat) : Int := xs[i]?.getD 0

theorem gI_eq {xs : List Int} {i : Nat} (h : i < xs.length) : gI xs i = xs[i] := by simp [gI, h]
theorem gI_get {xs : List Int} {i : Nat} (h : i < xs.length) : xs[i]? = some (gI xs i) := by simp [gI, h]
theorem gI_mem {xs : List Int} {i : Nat} (h : i < xs.length) : gI xs i ∈ xs := by rw [gI_eq h]; exact List.getElem_mem h
theorem I64.of_mem {xs : List Int} (h : ∀ i, i < xs.length → I64 (gI xs i)) {x : Int} (hx : x ∈ xs) : I64 x := by
  obtain ⟨i, hi, rfl⟩ := List.mem_iff_getElem.1 hx
  have := h i hi
  rwa [gI_eq hi] at this

/-- The cells that a slice reads: m of them, from its address on. -/
def Rd (w : World) (A : Option Addr) (m : Nat) (cell : Nat → Value) : Prop :=
  0 < m → ∃ b off, A = some ⟨b, off, none⟩ ∧ b < w.heap.size ∧ ∀ i, i < m → w.cell? ⟨b, off + i, none⟩ = some (cell i)
theorem Rd.below {w w' : World} {A : Option Addr} {m : Nat} {cell : Nat → Value} (h : Rd w A m cell) (hb : Below w.heap.size w w') : Rd w' A m cell := by
  intro hm
  obtain ⟨b, off, e, hlt, hc⟩ := h hm
  exact ⟨b, off, e, Nat.lt_of_lt_of_le hlt hb.size, fun i hi => (hb.cell (p := ⟨b, off + i, none⟩) hlt).trans (hc i hi)⟩

/-- A slice of ints. -/
structure RI (w : World) (A : Option Addr) (xs : List Int) : Prop where
  len : xs.length ≤ 140737488355328
  rng : ∀ i, i < xs.length → I64 (gI xs i)
  rd : Rd w A xs.length (fun i => .int .i64 (gI xs i))
theorem RI.below {w w' : World} {A : Option Addr} {xs : List Int} (h : RI w A xs) (hb : Below w.heap.size w w') : RI w' A xs := ⟨h.len, h.rng, h.rd.below hb⟩
theorem RI.nil (w : World) (A : Option Addr) : RI w A [] := ⟨Nat.zero_le _, fun _ hi => absurd hi (Nat.not_lt_zero _), fun hm => absurd hm (Nat.lt_irrefl 0)⟩
/-- Element k, where it lies. -/
theorem RI.at_ {w : World} {A : Option Addr} {xs : List Int} (h : RI w A xs) {k : Nat} (hk : k < xs.length) :
    ∃ b off, A = some ⟨b, off, none⟩ ∧ b < w.heap.size ∧ w.cell? ⟨b, off + k, none⟩ = some (.int .i64 (gI xs k)) ∧ I64 (gI xs k) := by
  obtain ⟨b, off, e, hlt, hc⟩ := h.rd (by omega)
  exact ⟨b, off, e, hlt, hc k hk, h.rng k hk⟩

theorem gI_append_left {xs ys : List Int} {i : Nat} (h : i < xs.length) : gI (xs ++ ys) i = gI xs i := by simp [gI, List.getElem?_append_left h]

/-- A row of its own reads so. -/
theorem own_RI {w : World} {base n : Nat} {e : TypeId} {v : Value} {xs : List Int} (h : w.ownsRow base e 1 v n (xs.map (Value.int .i64))) (hx : ∀ x ∈ xs, I64 x) (hl : xs.length ≤ 140737488355328) :
    ∃ A c, v = .slice A xs.length c ∧ xs.length ≤ c ∧ RI w A xs := by
  obtain ⟨h1, h2⟩ := h
  have hn : n = xs.length := by simpa using h1.symm
  subst hn
  have hr : ∀ i, i < xs.length → I64 (gI xs i) := fun i hi => hx _ (gI_mem hi)
  rcases h2 with ⟨rfl, h0⟩ | ⟨g, cap, cur, rfl, hg, hh, hc, hcap, hsz, htake⟩
  · have : xs = [] := List.eq_nil_of_length_eq_zero h0
    subst this
    exact ⟨none, 0, rfl, Nat.le_refl _, RI.nil _ _⟩
  · refine ⟨some ⟨g, 0, none⟩, cap, rfl, hc, hl, hr, fun _ => ⟨g, 0, rfl, (Array.getElem?_eq_some_iff.1 hh).1, fun i hi => ?_⟩⟩
    rw [cell_of_row w g _ cur e (0, 0) hh]
    have : cur.toList[0 + i]? = some (.int .i64 (gI xs i)) := by
      have hm := congrArg (fun l : List Value => l[i]?) htake
      simp only [Nat.mul_one, List.getElem?_take, if_pos hi, List.getElem?_map, gI_get hi, Option.map_some] at hm
      rw [Nat.zero_add]; exact hm
    rw [← this]; simp

theorem own_form {w : World} {base n : Nat} {e size : Nat} {v : Value} {xs : List Value} (h : w.ownsRow base e size v n xs) : ∃ A c, v = .slice A n c := by
  obtain ⟨_, h2⟩ := h
  rcases h2 with ⟨rfl, rfl⟩ | ⟨g, cap, cur, rfl, _⟩
  · exact ⟨_, _, rfl⟩
  · exact ⟨_, _, rfl⟩
theorem own_base {w : World} {base n : Nat} {e size : Nat} {v : Value} {xs : List Value} (h : w.ownsRow base e size v n xs) : ∀ k, v.ownBlock = some k → base ≤ k := by
  obtain ⟨_, h2⟩ := h
  intro k hk
  rcases h2 with ⟨rfl, _⟩ | ⟨g, cap, cur, rfl, hg, _⟩
  · cases hk
  · cases hk; exact hg

/- Blocks. -/
theorem blk_new (w : World) (o : Obj) : (w.alloc o).heap[w.heap.size]? = some o := heap_alloc_new w o
theorem blk_new1 (w : World) (o o' : Obj) : ((w.alloc o).alloc o').heap[w.heap.size + 1]? = some o' := heap_alloc2_new w o o'
theorem blk_old (w : World) (o : Obj) {k : Nat} (h : k < w.heap.size) : (w.alloc o).heap[k]? = w.heap[k]? := Below.heap_alloc w o k h
theorem blk_lt {w : World} {g : Nat} {o : Obj} (h : w.heap[g]? = some o) : g < w.heap.size := (Array.getElem?_eq_some_iff.1 h).1
theorem blk_below {B : Nat} {w w' : World} (h : Below B w w') {g : Nat} {o : Obj} (hg : w.heap[g]? = some o) (hlt : g < B) : w'.heap[g]? = some o := (h.block g hlt).trans hg
theorem blk_set {w : World} {g t i : Nat} {cs : Array Value} {v : Value} (h : w.heap[g]? = some (.cells cs t (0, 0))) :
    (w.setCell ⟨g, i, none⟩ v).heap[g]? = some (.cells (cs.setIfInBounds i v) t (0, 0)) := heap_setCell_same w g i cs t v h
theorem blk_far {w : World} {p : Addr} {g : Nat} (hne : g ≠ p.block) {v : Value} : (w.setCell p v).heap[g]? = w.heap[g]? := Below.heap_setCell w p v g hne
theorem blk_setRow {w : World} {g t : Nat} {cs cs' : Array Value} (h : w.heap[g]? = some (.cells cs t (0, 0))) :
    (w.setRow g cs').heap[g]? = some (.cells cs' t (0, 0)) := setRow_heap w g cs cs' t _ h
theorem blk_setRow_far {w : World} {g k : Nat} {cs' : Array Value} (hne : k ≠ g) : (w.setRow g cs').heap[k]? = w.heap[k]? := by
  simp only [World.setRow, Array.getElem?_modify]
  rw [if_neg (fun e => hne e.symm)]
theorem below_setRow {B : Nat} {a w : World} (h : Below B a w) {g : Nat} (hg : B ≤ g) (cs : Array Value) : Below B a (w.setRow g cs) :=
  h.trans ⟨rfl, rfl, rfl, by simp, fun k hk => blk_setRow_far (by omega)⟩

/- Numbers. -/
theorem wrap_u64_in (n : Int) (h0 : 0 ≤ n) (h : n < 18446744073709551616) : IntKind.u64.wrap n = n := by
  have : IntKind.u64.wrap n = n % 18446744073709551616 := by simp [IntKind.wrap, IntKind.bits, IntKind.signed]
  rw [this]; omega
theorem wrap_u64_out (n : Int) (h0 : I64 n) (h : inR n = false) : decide (IntKind.u64.wrap n < 1024) = false := by
  have : IntKind.u64.wrap n = n % 18446744073709551616 := by simp [IntKind.wrap, IntKind.bits, IntKind.signed]
  have h' : ¬ (0 ≤ n ∧ n < 1024) := fun e => by rw [(inR_iff n).2 e] at h; cases h
  obtain ⟨h1, h2⟩ := h0
  rw [this]; simp; omega
theorem and63 (x : Int) (h0 : 0 ≤ x) (h1 : x < 1024) : bits .and .i64 x 63 = x % 64 :=
  bits_mask .i64 63 (by decide) (fun n a b => by rw [IntKind.wrap_i64]; omega) 6 (by decide) x h0 (by omega)
/-- Words by names that no tactic looks behind: one bit; both, either, the first less the second. -/
def bitW (k : Nat) : Nat := 1 <<< k
def orW (a b : Nat) : Nat := a ||| b
def andW (a b : Nat) : Nat := a &&& b
def lessW (a b : Nat) : Nat := a ^^^ (a &&& b)
theorem bitW_lt {k : Nat} (h : k < 64) : bitW k < 18446744073709551616 := by
  unfold bitW; rw [Nat.one_shiftLeft]; exact Nat.pow_lt_pow_right (a := 2) (m := k) (n := 64) (by decide) h
theorem shl_one (k : Nat) (h : k < 64) : IntKind.u64.wrap (2 ^ k) = ((bitW k : Nat) : Int) := by
  have h1 := bitW_lt h
  unfold bitW at *
  rw [Nat.one_shiftLeft] at *
  have e : ((2 : Int) ^ k) = ((2 ^ k : Nat) : Int) := (Int.natCast_pow 2 k).symm
  rw [e]
  generalize (2 : Nat) ^ k = q at *
  exact wrap_u64_in _ (Int.natCast_nonneg _) (by omega)
theorem or_u64 {a b : Nat} (ha : a < 18446744073709551616) (hb : b < 18446744073709551616) : bits .or .u64 (a : Int) (b : Int) = ((orW a b : Nat) : Int) := bits_or_u64_nat a b ha hb
theorem and_u64 {a b : Nat} (ha : a < 18446744073709551616) (hb : b < 18446744073709551616) : bits .and .u64 (a : Int) (b : Int) = ((andW a b : Nat) : Int) := bits_and_u64_nat a b ha hb
theorem less_u64 {a b : Nat} (ha : a < 18446744073709551616) (hb : b < 18446744073709551616) : bits .andNot .u64 (a : Int) (b : Int) = ((lessW a b : Nat) : Int) := by
  have hx : a ^^^ (a &&& b) < 2 ^ 64 := Nat.xor_lt_two_pow (by omega) (Nat.and_lt_two_pow _ (by omega))
  have h1 : BitVec.ofInt 64 (a : Int) = BitVec.ofNat 64 a := BitVec.ofInt_natCast ..
  have h2 : BitVec.ofInt 64 (b : Int) = BitVec.ofNat 64 b := BitVec.ofInt_natCast ..
  show IntKind.u64.wrap (((BitVec.ofInt 64 (a : Int)) &&& ~~~(BitVec.ofInt 64 (b : Int))).toNat : Int) = _
  have e : ((BitVec.ofInt 64 (a : Int)) &&& ~~~(BitVec.ofInt 64 (b : Int))).toNat = a ^^^ (a &&& b) := by
    rw [h1, h2]
    apply Nat.eq_of_testBit_eq
    intro j
    rw [BitVec.testBit_toNat, Nat.testBit_xor, Nat.testBit_and]
    by_cases hj : j < 64
    · rw [BitVec.getLsbD_and, BitVec.getLsbD_not, BitVec.getLsbD_ofNat, BitVec.getLsbD_ofNat]
      simp only [hj, decide_true, Bool.true_and]
      cases a.testBit j <;> cases b.testBit j <;> rfl
    · have ea : a.testBit j = false := Nat.testBit_lt_two_pow (Nat.lt_of_lt_of_le ha (by exact Nat.pow_le_pow_right (n := 2) (by decide) (show 64 ≤ j by omega)))
      rw [BitVec.getLsbD_of_ge _ _ (by omega), ea]; rfl
  rw [e]
  unfold lessW
  generalize a ^^^ (a &&& b) = q at *
  exact wrap_u64_in _ (Int.natCast_nonneg _) (by omega)

theorem oneCell_setA (N : Nat) : (setA N).all (·.oneCell') = true := by
  rw [Array.all_eq_true]
  intro i hi
  have h := setA_get N i (by rw [setA_size] at hi; exact hi)
  rw [Array.getElem?_eq_getElem hi] at h
  rw [Option.some.inj h]; rfl

/-- Word n / 64 written anew: the set with n more, without n. -/
theorem setA_add {N n : Nat} : (setA N).setIfInBounds (n / 64) (.int .u64 ((orW (wd N (n / 64)) (bitW (n % 64)) : Nat) : Int)) = setA (addN N n) := by
  apply setA_of
  · simp [setA_size]
  · intro i hi
    rw [wd_addN, Array.getElem?_setIfInBounds]
    by_cases e : n / 64 = i
    · subst e; rw [if_pos rfl, if_pos rfl, if_pos (by rw [setA_size]; exact hi)]; rfl
    · rw [if_neg e, if_neg (fun q => e q.symm)]; exact setA_get N i hi
theorem setA_del {N n : Nat} : (setA N).setIfInBounds (n / 64) (.int .u64 ((lessW (wd N (n / 64)) (bitW (n % 64)) : Nat) : Int)) = setA (delN N n) := by
  apply setA_of
  · simp [setA_size]
  · intro i hi
    rw [wd_delN, Array.getElem?_setIfInBounds]
    by_cases e : n / 64 = i
    · subst e; rw [if_pos rfl, if_pos rfl, if_pos (by rw [setA_size]; exact hi)]; rfl
    · rw [if_neg e, if_neg (fun q => e q.symm)]; exact setA_get N i hi

/-- The words of a set that is made anew word by word: the first k of them are L's, the others N's. -/
def Mix (cs : Array Value) (L N k : Nat) : Prop := cs.size = 16 ∧ ∀ i, i < 16 → cs[i]? = some (.int .u64 ((if i < k then wd L i else wd N i : Nat) : Int))
theorem Mix.start (L N : Nat) : Mix (setA N) L N 0 := ⟨setA_size N, fun i hi => by rw [if_neg (Nat.not_lt_zero _)]; exact setA_get N i hi⟩
theorem Mix.step {cs : Array Value} {L N k : Nat} (h : Mix cs L N k) (hk : k < 16) {x : Int} (hx : x = ((wd L k : Nat) : Int)) : Mix (cs.setIfInBounds k (.int .u64 x)) L N (k + 1) := by
  refine ⟨by simp [h.1], fun i hi => ?_⟩
  rw [Array.getElem?_setIfInBounds]
  by_cases e : k = i
  · subst e; rw [if_pos rfl, if_pos (by rw [h.1]; exact hk), if_pos (by omega), hx]
  · rw [if_neg e, h.2 i hi]
    by_cases q : i < k
    · rw [if_pos q, if_pos (by omega)]
    · rw [if_neg q, if_neg (by omega)]
theorem Mix.done {cs : Array Value} {L N : Nat} (h : Mix cs L N 16) : cs = setA L := setA_of h.1 (fun i hi => by rw [h.2 i hi, if_pos hi])

/-- What the program asks of a word: its bit. -/
theorem has_bit (x k : Nat) (hx : x < 18446744073709551616) : (bits .and .u64 ((x : Int) / 2 ^ k) 1 == 1) = x.testBit k := by
  have e : ((x : Int) / 2 ^ k) = ((x / 2 ^ k : Nat) : Int) := by
    rw [Int.natCast_ediv, Int.natCast_pow]; rfl
  have hq : x / 2 ^ k < 18446744073709551616 := Nat.lt_of_le_of_lt (Nat.div_le_self _ _) hx
  rw [e, show (1 : Int) = ((1 : Nat) : Int) from rfl, bits_and_u64_nat _ 1 hq (by decide), Nat.testBit, Nat.and_comm, Nat.shiftRight_eq_div_pow]
  generalize x / 2 ^ k = q
  rw [Nat.and_comm, Nat.and_one_is_mod]
  have : q % 2 = 0 ∨ q % 2 = 1 := by omega
  rcases this with h | h <;> simp [h]

end Go.Proofs.YtjichaeegheacaaGreatDoor

/- BitsA -/
/-
  The package bits, function by function: what each of its calls answers, and that nothing that was there is turned.
-/
namespace Go.Proofs.YtjichaeegheacaaGreatDoor
open Go Go.RowKit

abbrev tSet : Nat := 70
theorem szSet : (Tryz.prog.info? 70).map (·.size) = some 16 := by kernel_rfl
theorem szSetA (N : Nat) : (Tryz.prog.info? 70).map (·.size) = some (setA N).size := by rw [setA_size]; exact szSet

/-- What a call that only makes memory answers. -/
def Fresh (w : World) (v : Value) (e : Ending) (w' : World) : Prop := e = .returned v ∧ Below w.heap.size w w'

set_option maxHeartbeats 400000 in
theorem With_any (N : Nat) (A : Option Addr) (c : Nat) (xs : List Int) (w : World) (hr : RI w A xs) :
    Calls Tryz.prog 59 #[.agg (setA N), .slice A xs.length c] w (Fresh w (.agg (setA (withL N xs)))) := by
  have hlen := hr.len
  go_enter Tryz.func59, Tryz.ntmps59
  go_wp2
  go_loopw [9] (fun i wr => ∃ k : Nat, k ≤ xs.length ∧ i = .int .i64 k ∧ wr.heap[w.heap.size]? = some (.cells (setA (withL N (xs.take k))) 70 (0, 0)) ∧ (∃ cs : Array Value, cs.size = 16 ∧ wr.heap[w.heap.size + 1]? = some (.cells cs 70 (0, 0))) ∧ Below w.heap.size w wr) (fun i _ => xs.length - (intOf i).toNat)
  case atStart => exact ⟨0, Nat.zero_le _, rfl, (blk_old _ _ (by simp)).trans (blk_new w _), ⟨_, by rfl, blk_new1 w _ _⟩, ((Below.refl _ _).alloc (Nat.le_refl _) _).alloc (by simp) _⟩
  case round =>
    obtain ⟨k, hk, rfl, hs, ⟨cs, hcs, hs2⟩, hb⟩ := hrel
    by_cases hlt : k < xs.length
    · obtain ⟨b, off, rfl, hbl, hck, hx⟩ := (hr.below hb).at_ hlt
      have HS : Hid (withL N (xs.take (k + 1)) = withI (withL N (xs.take k)) (gI xs k)) := withL_take_succ N xs k hlt
      generalize gI xs k = x at *
      by_cases hin : inR x = true
      · have hx' := (inR_iff x).1 hin
        have hw := wrap_u64_in x hx'.1 (by omega)
        have hand := and63 x hx'.1 hx'.2
        have hshl := shl_one (x % 64).toNat (by omega)
        have hor := or_u64 (wd_lt (withL N (xs.take k)) (x / 64).toNat) (bitW_lt (k := (x % 64).toNat) (by omega))
        have hcell : wr.cell? ⟨w.heap.size, (x / 64).toNat, none⟩ = some (.int .u64 ((wd (withL N (xs.take k)) (x / 64).toNat : Nat) : Int)) := (cell_of_row wr _ _ _ _ _ hs).trans (setA_get _ _ (by omega))
        have hfr : wr.frozen? ⟨w.heap.size, (x / 64).toNat, none⟩ = false := frozen_of_row wr _ _ _ _ hs
        have HA : Hid ((setA (withL N (xs.take k))).setIfInBounds (x / 64).toNat (.int .u64 ((orW (wd (withL N (xs.take k)) (x / 64).toNat) (bitW (x % 64).toNat) : Nat) : Int)) = setA (addN (withL N (xs.take k)) x.toNat)) := by
          have h1 : (x / 64).toNat = x.toNat / 64 := by omega
          have h2 : (x % 64).toNat = x.toNat % 64 := by omega
          rw [h1, h2]; exact setA_add
        go_wp2
        go_region
        go_wp2
        go_roundw
        case rel =>
          refine ⟨k + 1, by omega, by go_num, ?_, ⟨cs, hcs, ?_⟩, (hb.setCell (by simp) _).drew⟩
          · rw [HS.out, withI, if_pos hin, ← HA.out]; exact blk_set hs
          · exact (blk_far (by simp)).trans hs2
        case measure => simp [intOf]; omega
      · have hw := wrap_u64_out x hx (by simpa using hin)
        go_wp2
        go_roundw
        case rel => exact ⟨k + 1, by omega, by go_num, by rw [HS.out, withI, if_neg hin]; exact hs, ⟨cs, hcs, hs2⟩, hb⟩
        case measure => simp [intOf]; omega
    · have e : xs.take k = xs := List.take_of_length_le (by omega)
      rw [e] at hs
      go_wp2_with (first | (refine wpList_load_row rfl _ _ rfl _ rfl _ _ _ _ hs Tryz.underlying70 rfl (szSetA _) ?_) | (refine wpList_store_row rfl _ _ _ rfl _ _ rfl rfl _ _ hs2 (szSetA _) (by rw [setA_size]; exact hcs) (oneCell_setA _) ?_))
      exact bodyPost_ret (results_cell_row rfl _ _ _ _ _ _ _ rfl (blk_setRow hs2) Tryz.underlying70 rfl (szSetA _)) rfl ⟨rfl, below_setRow hb (by omega) _⟩

set_option maxHeartbeats 400000 in
theorem Has_any (N : Nat) (n : Int) (w : World) (hn : I64 n) :
    Calls Tryz.prog 58 #[.agg (setA N), .int .i64 n] w (Fresh w (.bool (inR n && N.testBit n.toNat))) := by
  by_cases hin : inR n = true
  · have hx' := (inR_iff n).1 hin
    have hw := wrap_u64_in n hx'.1 (by omega)
    have hand := and63 n hx'.1 hx'.2
    have hg := setA_get N (n / 64).toNat (by omega)
    have hq := has_bit (wd N (n / 64).toNat) (n % 64).toNat (wd_lt _ _)
    have HB : Hid ((wd N (n / 64).toNat).testBit (n % 64).toNat = N.testBit n.toNat) := by
      have h1 : (n / 64).toNat = n.toNat / 64 := by omega
      have h2 : (n % 64).toNat = n.toNat % 64 := by omega
      rw [h1, h2]; exact (bit_of_wd N n.toNat).symm
    go_enter Tryz.func58, Tryz.ntmps58
    go_wp2
    go_ret
    exact ⟨by simp [hin, HB.out], (Below.refl _ _).alloc (Nat.le_refl _) _⟩
  · have hw := wrap_u64_out n hn (by simpa using hin)
    go_enter Tryz.func58, Tryz.ntmps58
    go_wp2
    go_ret
    exact ⟨by simp [hin], (Below.refl _ _).alloc (Nat.le_refl _) _⟩

end Go.Proofs.YtjichaeegheacaaGreatDoor

/- BitsB -/
/-
  The package bits, on: Without, And.
-/
namespace Go.Proofs.YtjichaeegheacaaGreatDoor
open Go Go.RowKit

set_option maxHeartbeats 400000 in
theorem Without_any (N : Nat) (A : Option Addr) (c : Nat) (xs : List Int) (w : World) (hr : RI w A xs) :
    Calls Tryz.prog 61 #[.agg (setA N), .slice A xs.length c] w (Fresh w (.agg (setA (outL N xs)))) := by
  have hlen := hr.len
  go_enter Tryz.func61, Tryz.ntmps61
  go_wp2
  go_loopw [9] (fun i wr => ∃ k : Nat, k ≤ xs.length ∧ i = .int .i64 k ∧ wr.heap[w.heap.size]? = some (.cells (setA (outL N (xs.take k))) 70 (0, 0)) ∧ (∃ cs : Array Value, cs.size = 16 ∧ wr.heap[w.heap.size + 1]? = some (.cells cs 70 (0, 0))) ∧ Below w.heap.size w wr) (fun i _ => xs.length - (intOf i).toNat)
  case atStart => exact ⟨0, Nat.zero_le _, rfl, (blk_old _ _ (by simp)).trans (blk_new w _), ⟨_, by rfl, blk_new1 w _ _⟩, ((Below.refl _ _).alloc (Nat.le_refl _) _).alloc (by simp) _⟩
  case round =>
    obtain ⟨k, hk, rfl, hs, ⟨cs, hcs, hs2⟩, hb⟩ := hrel
    by_cases hlt : k < xs.length
    · obtain ⟨b, off, rfl, hbl, hck, hx⟩ := (hr.below hb).at_ hlt
      have HS : Hid (outL N (xs.take (k + 1)) = outI (outL N (xs.take k)) (gI xs k)) := outL_take_succ N xs k hlt
      generalize gI xs k = x at *
      by_cases hin : inR x = true
      · have hx' := (inR_iff x).1 hin
        have hw := wrap_u64_in x hx'.1 (by omega)
        have hand := and63 x hx'.1 hx'.2
        have hshl := shl_one (x % 64).toNat (by omega)
        have hcell : wr.cell? ⟨w.heap.size, (x / 64).toNat, none⟩ = some (.int .u64 ((wd (outL N (xs.take k)) (x / 64).toNat : Nat) : Int)) := (cell_of_row wr _ _ _ _ _ hs).trans (setA_get _ _ (by omega))
        have hfr : wr.frozen? ⟨w.heap.size, (x / 64).toNat, none⟩ = false := frozen_of_row wr _ _ _ _ hs
        have hor := less_u64 (wd_lt (outL N (xs.take k)) (x / 64).toNat) (bitW_lt (k := (x % 64).toNat) (by omega))
        have HA : Hid ((setA (outL N (xs.take k))).setIfInBounds (x / 64).toNat (.int .u64 ((lessW (wd (outL N (xs.take k)) (x / 64).toNat) (bitW (x % 64).toNat) : Nat) : Int)) = setA (delN (outL N (xs.take k)) x.toNat)) := by
          have h1 : (x / 64).toNat = x.toNat / 64 := by omega
          have h2 : (x % 64).toNat = x.toNat % 64 := by omega
          rw [h1, h2]; exact setA_del
        go_wp2
        go_region
        go_wp2
        go_roundw
        case rel =>
          refine ⟨k + 1, by omega, by go_num, ?_, ⟨cs, hcs, ?_⟩, (hb.setCell (by simp) _).drew⟩
          · rw [HS.out, outI, if_pos hin, ← HA.out]; exact blk_set hs
          · exact (blk_far (by simp)).trans hs2
        case measure => simp [intOf]; omega
      · have hw := wrap_u64_out x hx (by simpa using hin)
        go_wp2
        go_roundw
        case rel => exact ⟨k + 1, by omega, by go_num, by rw [HS.out, outI, if_neg hin]; exact hs, ⟨cs, hcs, hs2⟩, hb⟩
        case measure => simp [intOf]; omega
    · have e : xs.take k = xs := List.take_of_length_le (by omega)
      rw [e] at hs
      go_wp2_with (first | (refine wpList_load_row rfl _ _ rfl _ rfl _ _ _ _ hs Tryz.underlying70 rfl (szSetA _) ?_) | (refine wpList_store_row rfl _ _ _ rfl _ _ rfl rfl _ _ hs2 (szSetA _) (by rw [setA_size]; exact hcs) (oneCell_setA _) ?_))
      exact bodyPost_ret (results_cell_row rfl _ _ _ _ _ _ _ rfl (blk_setRow hs2) Tryz.underlying70 rfl (szSetA _)) rfl ⟨rfl, below_setRow hb (by omega) _⟩

set_option maxHeartbeats 400000 in
theorem And_any (N M : Nat) (w : World) :
    Calls Tryz.prog 62 #[.agg (setA N), .agg (setA M)] w (Fresh w (.agg (setA (N &&& M)))) := by
  go_enter Tryz.func62, Tryz.ntmps62
  go_wp2
  go_loopw [6] (fun i wr => ∃ k : Nat, k ≤ 16 ∧ i = .int .i64 k ∧ (∃ cs : Array Value, Mix cs (N &&& M) N k ∧ wr.heap[w.heap.size]? = some (.cells cs 70 (0, 0))) ∧ wr.heap[w.heap.size + 1]? = some (.cells (setA M) 70 (0, 0)) ∧ (∃ cs : Array Value, cs.size = 16 ∧ wr.heap[w.heap.size + 2]? = some (.cells cs 70 (0, 0))) ∧ Below w.heap.size w wr) (fun i _ => 16 - (intOf i).toNat)
  case atStart =>
    have h3 := blk_new1 (w.alloc (.cells (setA N) 70)) (.cells (setA M) 70) (.cells #[.int .u64 0, .int .u64 0, .int .u64 0, .int .u64 0, .int .u64 0, .int .u64 0, .int .u64 0, .int .u64 0, .int .u64 0, .int .u64 0, .int .u64 0, .int .u64 0, .int .u64 0, .int .u64 0, .int .u64 0, .int .u64 0] 70)
    rw [World.size_alloc] at h3
    exact ⟨0, Nat.zero_le _, rfl, ⟨_, Mix.start _ N, (blk_old _ _ (by simp; omega)).trans ((blk_old _ _ (by simp)).trans (blk_new w _))⟩, (blk_old _ _ (by simp)).trans (blk_new1 w _ _), ⟨_, by rfl, h3⟩, (((Below.refl _ _).alloc (Nat.le_refl _) _).alloc (by simp) _).alloc (by simp; omega) _⟩
  case round =>
    obtain ⟨k, hk, rfl, ⟨cs, hm, hs⟩, ht, ⟨cs2, hcs2, hs2⟩, hb⟩ := hrel
    by_cases hlt : k < 16
    · have hcell : wr.cell? ⟨w.heap.size, k, none⟩ = some (.int .u64 ((wd N k : Nat) : Int)) := (cell_of_row wr _ _ _ _ _ hs).trans ((hm.2 k hlt).trans (by rw [if_neg (Nat.lt_irrefl _)]))
      have hcell2 : wr.cell? ⟨w.heap.size + 1, k, none⟩ = some (.int .u64 ((wd M k : Nat) : Int)) := (cell_of_row wr _ _ _ _ _ ht).trans (setA_get M k hlt)
      have hfr : wr.frozen? ⟨w.heap.size, k, none⟩ = false := frozen_of_row wr _ _ _ _ hs
      have hop := and_u64 (wd_lt N k) (wd_lt M k)
      have HX : Hid (((andW (wd N k) (wd M k) : Nat) : Int) = ((wd (N &&& M) k : Nat) : Int)) := by rw [wd_and]; rfl
      go_wp2
      go_region
      go_wp2
      go_roundw
      case rel =>
        refine ⟨k + 1, by omega, by go_num, ⟨_, hm.step hlt HX.out, blk_set hs⟩, (blk_far (by simp)).trans ht, ⟨cs2, hcs2, (blk_far (by simp)).trans hs2⟩, (hb.setCell (by simp) _).drew⟩
      case measure => simp [intOf]; omega
    · obtain rfl : k = 16 := by omega
      obtain rfl := hm.done
      go_wp2_with (first | (refine wpList_load_row rfl _ _ rfl _ rfl _ _ _ _ hs Tryz.underlying70 rfl (szSetA _) ?_) | (refine wpList_store_row rfl _ _ _ rfl _ _ rfl rfl _ _ hs2 (szSetA _) (by rw [setA_size]; exact hcs2) (oneCell_setA _) ?_))
      exact bodyPost_ret (results_cell_row rfl _ _ _ _ _ _ _ rfl (blk_setRow hs2) Tryz.underlying70 rfl (szSetA _)) rfl ⟨rfl, below_setRow hb (by omega) _⟩

end Go.Proofs.YtjichaeegheacaaGreatDoor

/- Words -/
/-
  The numbers of a set, rising; its least one; how many there are: read off word by word, bit by bit. Plain Lean: no program in sight.
-/
namespace Go.Proofs.YtjichaeegheacaaGreatDoor
open Go

/-- The numbers of a set below m, rising. -/
def upTo (N m : Nat) : List Int := ((List.range m).filter (fun j => N.testBit j)).map Int.ofNat

theorem upTo_zero (N : Nat) : upTo N 0 = [] := rfl
theorem upTo_succ (N m : Nat) : upTo N (m + 1) = if N.testBit m then upTo N m ++ [(m : Int)] else upTo N m := by
  unfold upTo
  rw [List.range_succ, List.filter_append]
  by_cases h : N.testBit m
  · simp [h]
  · simp [h]
theorem upTo_skip (N : Nat) {a : Nat} : ∀ d, (∀ j, a ≤ j → j < a + d → N.testBit j = false) → upTo N (a + d) = upTo N a
  | 0, _ => rfl
  | d + 1, h => by
    rw [← Nat.add_assoc, upTo_succ, h (a + d) (by omega) (by omega)]
    simpa using upTo_skip N d (fun j h1 h2 => h j h1 (by omega))
theorem mem_upTo (N m : Nat) (x : Int) : x ∈ upTo N m ↔ ∃ j, j < m ∧ N.testBit j = true ∧ x = (j : Int) := by
  unfold upTo
  simp only [List.mem_map, List.mem_filter, List.mem_range]
  constructor
  · rintro ⟨j, ⟨h1, h2⟩, rfl⟩; exact ⟨j, h1, h2, rfl⟩
  · rintro ⟨j, h1, h2, rfl⟩; exact ⟨j, ⟨h1, h2⟩, rfl⟩
theorem upTo_len (N m : Nat) : (upTo N m).length ≤ m := by
  unfold upTo
  rw [List.length_map]
  exact Nat.le_trans (List.length_filter_le _ _) (by simp)
theorem upTo_i64 {N m : Nat} (hm : m ≤ 1024) : ∀ x ∈ upTo N m, I64 x := by
  intro x hx
  obtain ⟨j, h1, _, rfl⟩ := (mem_upTo N m x).1 hx
  exact ⟨by omega, by omega⟩

/-- The lowest bit of a word. -/
theorem low_bit {v : Nat} (h0 : v ≠ 0) (h : v < 18446744073709551616) : ∃ q m, Lib.ctz 64 v = q ∧ q < 64 ∧ v = 2 ^ q * (2 * m + 1) := by
  obtain ⟨m, hm, hk⟩ := Lib.ctzFrom_spec 64 v (by omega) (by exact h)
  exact ⟨_, m, by simp [Lib.ctz, h0], hk, hm⟩
theorem low_test (q m j : Nat) : (2 ^ q * (2 * m + 1)).testBit j = (decide (q ≤ j) && (decide (j = q) || (2 ^ q * (2 * m + 1)).testBit j)) := by
  rw [Nat.mul_comm, Nat.testBit_mul_two_pow]
  by_cases h : q ≤ j
  · by_cases e : j = q
    · subst e; simp
    · simp [h, e]
  · simp [h]
/-- A word without its lowest bit. -/
theorem low_gone (q m j : Nat) : ((2 ^ q * (2 * m + 1)) &&& (2 ^ q * (2 * m + 1) - 1)).testBit j = ((2 ^ q * (2 * m + 1)).testBit j && !decide (j = q)) := by
  have e1 : 2 ^ q * (2 * m + 1) = 2 ^ (q + 1) * m + 2 ^ q := by rw [Nat.pow_succ, Nat.mul_add, Nat.mul_one, ← Nat.mul_assoc, Nat.mul_assoc (2 ^ q) 2 m]
  have hp : 0 < 2 ^ q := Nat.two_pow_pos q
  have e2 : 2 ^ q * (2 * m + 1) - 1 = 2 ^ (q + 1) * m + (2 ^ q - 1) := by rw [e1]; omega
  rw [Nat.testBit_and]
  by_cases hj : j < q
  · have h1 : decide (q ≤ j) = false := decide_eq_false (by omega)
    rw [low_test, h1]; rfl
  · by_cases hq : j = q
    · subst hq
      have : (2 ^ j * (2 * m + 1) - 1).testBit j = false := by
        rw [e2, Nat.testBit_two_pow_mul_add _ (by rw [Nat.pow_succ]; omega)]
        rw [if_pos (by omega)]
        exact Nat.testBit_lt_two_pow (by omega)
      simp [this]
    · have : (2 ^ q * (2 * m + 1) - 1).testBit j = (2 ^ q * (2 * m + 1)).testBit j := by
        rw [e2, e1, Nat.testBit_two_pow_mul_add _ (by rw [Nat.pow_succ]; omega), Nat.testBit_two_pow_mul_add _ (by rw [Nat.pow_succ]; omega)]
        rw [if_neg (by omega), if_neg (by omega)]
      rw [this]; simp [hq]

/-- A word less one. -/
def prW (v : Nat) : Nat := v - 1
theorem prW_u64 {v : Nat} (h0 : v ≠ 0) (h : v < 18446744073709551616) : IntKind.u64.wrap ((v : Int) - 1) = ((prW v : Nat) : Int) := by
  unfold prW
  rw [wrap_u64_in _ (by omega) (by omega)]; omega
theorem prW_lt {v : Nat} (h : v < 18446744073709551616) : prW v < 18446744073709551616 := by unfold prW; omega

/-- What is left of word k of N: its bits from p on. -/
def Left (N k p v : Nat) : Prop := v < 18446744073709551616 ∧ ∀ j, v.testBit j = (decide (p ≤ j) && (wd N k).testBit j)
theorem Left.start (N k : Nat) : Left N k 0 (wd N k) := ⟨wd_lt N k, fun j => by simp⟩
theorem Left.zero {N k p : Nat} (hp : p ≤ 64) (h : Left N k p 0) : upTo N (64 * (k + 1)) = upTo N (64 * k + p) := by
  have e : 64 * (k + 1) = (64 * k + p) + (64 - p) := by omega
  rw [e]
  refine upTo_skip N _ (fun j h1 h2 => ?_)
  have hb := h.2 (j - 64 * k)
  rw [Nat.zero_testBit, testBit_wd] at hb
  have e2 : 64 * k + (j - 64 * k) = j := by omega
  rw [e2] at hb
  have h3 : p ≤ j - 64 * k := by omega
  have h4 : j - 64 * k < 64 := by omega
  simp only [h3, h4, decide_true, Bool.true_and] at hb
  exact hb.symm
theorem Left.next {N k p v : Nat} (h : Left N k p v) (h0 : v ≠ 0) :
    ∃ q, Lib.ctz 64 v = q ∧ p ≤ q ∧ q < 64 ∧ upTo N (64 * k + (q + 1)) = upTo N (64 * k + p) ++ [(k : Int) * 64 + (q : Int)] ∧ Left N k (q + 1) (andW v (prW v)) ∧ andW v (prW v) < v := by
  obtain ⟨q, m, hq, hlt, hv⟩ := low_bit h0 h.1
  have hbit : v.testBit q = true := by rw [hv, low_test]; simp
  have hlow : ∀ j, j < q → v.testBit j = false := fun j hj => by
    have h1 : decide (q ≤ j) = false := decide_eq_false (by omega)
    rw [hv, low_test, h1]; rfl
  have hb := h.2 q
  rw [hbit] at hb
  have hpq : p ≤ q := by
    by_cases e : p ≤ q
    · exact e
    · simp [e] at hb
  simp only [hpq, decide_true, Bool.true_and, testBit_wd, hlt] at hb
  have hprev : andW v (prW v) < v := by
    have : andW v (prW v) ≤ prW v := Nat.and_le_right
    unfold prW at *
    omega
  refine ⟨q, hq, hpq, hlt, ?_, ⟨Nat.lt_of_le_of_lt (Nat.and_le_left) h.1, fun j => ?_⟩, hprev⟩
  · rw [← Nat.add_assoc, upTo_succ, ← hb, if_pos rfl, show (k : Int) * 64 + (q : Int) = ((64 * k + q : Nat) : Int) by omega]
    congr 1
    have e : 64 * k + q = (64 * k + p) + (q - p) := by omega
    rw [e]
    refine upTo_skip N _ (fun j h1 h2 => ?_)
    have hb2 := h.2 (j - 64 * k)
    rw [hlow _ (by omega), testBit_wd] at hb2
    have e2 : 64 * k + (j - 64 * k) = j := by omega
    rw [e2] at hb2
    have h3 : p ≤ j - 64 * k := by omega
    have h4 : j - 64 * k < 64 := by omega
    simp only [h3, h4, decide_true, Bool.true_and] at hb2
    exact hb2.symm
  · unfold andW prW
    rw [hv, low_gone, ← hv, h.2 j]
    by_cases e : q + 1 ≤ j
    · have : p ≤ j := by omega
      have : ¬ j = q := by omega
      simp [*]
    · by_cases e2 : j = q
      · subst e2; simp; omega
      · have hl := hlow j (by omega)
        rw [h.2 j] at hl
        simp [hl, e]
theorem upTo_le (N : Nat) {a b : Nat} (h : a ≤ b) : ∃ r, upTo N b = upTo N a ++ r := by
  obtain ⟨d, rfl⟩ : ∃ d, b = a + d := ⟨b - a, by omega⟩
  clear h
  induction d with
  | zero => exact ⟨[], by simp⟩
  | succ d ih =>
    obtain ⟨r, hr⟩ := ih
    rw [← Nat.add_assoc, upTo_succ]
    by_cases e : N.testBit (a + d)
    · rw [if_pos e, hr]; exact ⟨r ++ [((a + d : Nat) : Int)], by simp⟩
    · rw [if_neg e]; exact ⟨r, hr⟩

end Go.Proofs.YtjichaeegheacaaGreatDoor

/- Iter -/
/-
  The iterator over a set's numbers, and what collects them: TrailingZeros64, each, List.
-/
namespace Go.Proofs.YtjichaeegheacaaGreatDoor
open Go Go.RowKit Go.Shelf
attribute [local go_sem] Oper.semAt_some

/-- The table of math/bits lies in its variable. -/
def Tab (w : World) : Prop := TabAt 0 Lib.deBruijn64tab w ∧ 0 < w.heap.size
theorem Tab.below {w w' : World} (h : Tab w) (hb : Below w.heap.size w w') : Tab w' :=
  ⟨fun j hj => (hb.cell (p := ⟨0, j, none⟩) h.2).trans (h.1 j hj), Nat.lt_of_lt_of_le h.2 hb.size⟩

set_option maxHeartbeats 1000000 in
theorem tz_core (x k idx : Nat) (w : World) (hx0 : ((x : Int) == 0) = false)
    (key : IntKind.u64.wrap (bits BinOp.and IntKind.u64 (x : Int) (IntKind.u64.wrap (-(x : Int))) * 285870213051353865) / 288230376151711744 = (idx : Int))
    (hi : idx < 64) (hk : k < 64) (hcell : w.cell? ⟨0, idx, none⟩ = some (.int .u8 k)) :
    Calls Tryz.prog 114 #[.int .u64 x] w fun e w' => e = .returned (.int .i64 k) ∧ w = w' := by
  go_enter Tryz.func114, Tryz.ntmps114
  go_wp2_with (simp only [key])
  go_ret
  exact ⟨rfl, rfl⟩

/-- math/bits.TrailingZeros64 of a word that is not 0. -/
theorem tz_any (x : Nat) (hx : x < 18446744073709551616) (hx0 : x ≠ 0) (w : World) (hT : Tab w) :
    Calls Tryz.prog 114 #[.int .u64 x] w fun e w' => e = .returned (.int .i64 (Lib.ctz 64 x)) ∧ w = w' := by
  obtain ⟨hlow, hk⟩ := Lib.lowest_bit 64 x hx0 hx
  obtain ⟨hi, htab⟩ := Lib.deBruijn64_at _ hk
  have hcell := hT.1 _ hi
  rw [htab] at hcell
  exact tz_core x _ _ w (by simp; omega) (tz64_key x _ hx hx0 hlow) hi hk hcell

theorem index_set (N k : Nat) (hk : k < 16) (w : World) : (Instr.index 70 (.agg (setA N)) (.int .i64 (k : Int))).run Tryz.prog w = .ok (.int .u64 ((wd N k : Nat) : Int)) w := by
  have hg := setA_get N k hk
  have h1 : (0 : Int) ≤ k ∧ (k : Int) < 16 := ⟨by omega, by omega⟩
  simp [Instr.index, Sem.run_bind, asIntOf, run_underlying Tryz.underlying70, h1, part, hg]
  intro h
  omega

/-- The load of a whole block, within a fence. -/
theorem wpListIn_load_row {F : Fence} {n : Nat} {P : Program} {ops : Array Oper} {rest : List Oper} {o : Oper} {a : Act} {w : World} {Q : Exit → Act → World → Prop} (hgd : o.guard = none) (ty : TypeId) (x : Operand) (ho : o.op = .load ty x)
    (g : Nat) (hx : a.eval x = .pointer (some ⟨g, 0, none⟩)) (t : TypeId) (cs : Array Value) (fr : Nat × Nat) (d : TypeDesc) (hg : w.heap[g]? = some (.cells cs t fr))
    (hu : P.underlying ty = some d) (hd : (match d with | .struct _ | .array _ _ => true | _ => false) = true) (hi : (P.info? ty).map (·.size) = some cs.size)
    (h : wpListIn F n P ops Q rest (a.put o.dst (.agg cs)) w) : wpListIn F n P ops Q (o :: rest) a w := by
  refine wpListIn_plain hgd fun K hK => ?_
  unfold Oper.wpIn
  refine ⟨by simp [Oper.about, ho], ?_⟩
  rw [Oper.semAt_plain F _ _ (by rw [ho]; intro c hc; cases hc)]
  have hrun : (execOp a.eval o).run P w = .ok (.value (.agg cs)) w := by
    unfold execOp
    simp only [ho, hx, Instr.loadAt, Instr.sureAddr, Sem.run_bind, Sem.run_pure, Result.andThen_ok, run_loadVar_row w g t ty cs fr d hg hu hd hi]
  rw [hrun]
  exact hK _ _ h

set_option maxRecDepth 100000 in
set_option maxHeartbeats 1000000 in
/-- The iterator over a set's numbers: for every loop body that keeps what lay below n₀. -/
theorem each1_in (n : Nat) (hn : 1 ≤ n) (l Bn n₀ N : Nat) (J Jx : List Int → World → Prop)
    (hY : ∀ pre x W, J pre W → pre.length < 1024 → YieldAt Fence.wide (n - 1) Tryz.prog l #[.int .i64 x] W fun e W' =>
      (e = .returned (.bool true) ∧ J (pre ++ [x]) W' ∧ Below n₀ W W') ∨ (e = .returned (.bool false) ∧ Jx (pre ++ [x]) W'))
    (W : World) (hs : W.heap[Bn]? = some (.cells (setA N) 70 (0, 0))) (hT : Tab W) (hg : 0 < n₀) (h0 : J [] W) :
    CallsIn Fence.wide n Tryz.prog 113 #[.func (.yield l) #[] #[], .pointer (some ⟨Bn, 0, none⟩)] W fun e W' => (∃ v, e = .returned v) ∧
      ((∃ ys, ys = upTo N 1024 ∧ J ys W') ∨ (∃ pre, pre <+: upTo N 1024 ∧ Jx pre W')) := by
  refine callsIn_of_wp Tryz.func113 rfl trivial ?_ rfl
  simp only [Tryz.ntmps113, List.size_toArray, List.length_cons, List.length_nil, Nat.reduceAdd, Nat.reduceSub, Array.replicate_succ, Array.replicate_zero, List.push_toArray, List.append_toArray, List.nil_append, List.cons_append]
  gi_wp2_with (refine wpListIn_load_row rfl _ _ rfl _ rfl _ _ _ _ hs Tryz.underlying70 rfl (szSetA _) ?_)
  gi_loopw [6] (fun i wr => ∃ k : Nat, k ≤ 16 ∧ i = .int .i64 k ∧ J (upTo N (64 * k)) wr ∧ Tab wr) (fun i _ => 16 - (intOf i).toNat)
  case atStart => exact ⟨0, Nat.zero_le _, rfl, h0, hT⟩
  case round =>
    obtain ⟨k, hk, rfl, hJ, hTr⟩ := hrel
    by_cases hlt : k < 16
    · have hix := index_set N k hlt
      have hd : decide ((k : Int) < 16) = true := decide_eq_true (by omega)
      gi_wp2
      obtain ⟨wo, rfl⟩ : ∃ wo : World, wo = wr := ⟨_, rfl⟩
      gi_loopw [4] (fun x wr => ∃ p v : Nat, p ≤ 64 ∧ Left N k p v ∧ x = .int .u64 v ∧ J (upTo N (64 * k + p)) wr ∧ Tab wr) (fun x _ => (intOf x).toNat)
      case atStart => exact ⟨0, _, Nat.zero_le _, Left.start N k, rfl, hJ, hTr⟩
      case round =>
        obtain ⟨p, v, hp, hL, rfl, hJ2, hT2⟩ := hrel
        by_cases hv : v = 0
        · subst hv
          have HZ := Lib.hid (hL.zero hp)
          gi_wp2
          go_roundw
          case rel => exact ⟨k + 1, by omega, by go_num, by rw [HZ.out]; exact hJ2, hT2⟩
          case measure => simp [intOf]; omega
        · obtain ⟨q, hq, hpq, hq64, hup, hL2, hless⟩ := hL.next hv
          have hc := callsIn_wide (n := n - 1).2 (tz_any v hL.1 hv wr hT2)
          rw [hq] at hc
          have hv0 : ((v : Int) != 0) = true := by simp; omega
          have hsub := prW_u64 hv hL.1
          have hand := and_u64 hL.1 (prW_lt hL.1)
          have HU := Lib.hid hup
          clear hup
          obtain ⟨fn, tmps, assign, body, hy, hR⟩ := hY (upTo N (64 * k + p)) ((k : Int) * 64 + (q : Int)) wr hJ2 (by
            have h1 := congrArg List.length HU.out
            have h2 := upTo_len N (64 * k + (q + 1))
            rw [List.length_append] at h1
            simp at h1; omega)
          gi_wp2_with (refine ⟨trivial, ?_⟩; gi_at_call 114; refine hc.mono ?_; clear hc; rintro e w' ⟨rfl, rfl⟩)
          refine hR.mono ?_
          rintro e W3 (⟨rfl, hJ3, hk3⟩ | ⟨rfl, hJx3⟩)
          · gi_wp2
            go_roundw
            case rel => exact ⟨q + 1, _, by omega, hL2, rfl, by rw [HU.out]; exact hJ3, ⟨fun j hj => (hk3.cell (p := ⟨0, j, none⟩) hg).trans (hT2.1 j hj), Nat.lt_of_lt_of_le hT2.2 hk3.size⟩⟩
            case measure => simp [intOf]; omega
          · gi_wp2
            refine bodyPost_ret (results_none rfl _ _ _) rfl ?_
            obtain ⟨r, hr⟩ := upTo_le N (show 64 * k + (q + 1) ≤ 1024 by omega)
            exact ⟨⟨_, rfl⟩, .inr ⟨_, ⟨r, by rw [hr, HU.out]⟩, hJx3⟩⟩
    · obtain rfl : k = 16 := by omega
      gi_wp2
      go_end0
      exact ⟨⟨_, rfl⟩, .inl ⟨_, rfl, hJ⟩⟩

set_option maxRecDepth 100000 in
set_option maxHeartbeats 1000000 in
theorem each_in (n : Nat) (N : Nat) (w : World) :
    CallsIn Fence.wide n Tryz.prog 85 #[.agg (setA N)] w fun e w' => e = .returned (.func (.func 113) #[] #[.pointer (some ⟨w.heap.size, 0, none⟩)]) ∧ w.alloc (.cells (setA N) 70) = w' := by
  have hmf : ∀ (fn : Fn) (first cap : Array Value) (w : World), (Instr.makeFunc fn first cap).run Tryz.prog w = .ok (.func fn first cap) w := fun _ _ _ _ => rfl
  refine callsIn_of_wp Tryz.func85 rfl trivial ?_ rfl
  simp only [Tryz.ntmps85, List.size_toArray, List.length_cons, List.length_nil, Nat.reduceAdd, Nat.reduceSub, Array.replicate_succ, Array.replicate_zero, List.push_toArray, List.append_toArray, List.nil_append, List.cons_append]
  gi_wp2
  go_ret
  exact ⟨rfl, rfl⟩

theorem each_stops (n : Nat) (hn : 1 ≤ n) (Bn n₀ N : Nat) (w : World) (hBn : Bn < w.heap.size) (hc : w.heap[Bn]? = some (.cells (setA N) 70 (0, 0))) (hT : Tab w) (hg : 0 < n₀) :
    SeqStopsK Fence.wide n Tryz.prog 113 #[.pointer (some ⟨Bn, 0, none⟩)] (fun x : Int => #[Value.int .i64 x]) (Below n₀) (fun ys => ys = upTo N 1024) (fun pre => pre <+: upTo N 1024) 1024 w := fun l J Jx W hW _ _ hY h0 =>
  each1_in n hn l Bn n₀ N J Jx hY W (blk_below hW hc hBn) (hT.below hW) hg h0

theorem infoInt : (Tryz.prog.info? 3).map (fun i => (i.zero, i.size, i.bytes)) = some (some (.int .i64 0), 1, 8) := by kernel_rfl

/-- A result that lies in a variable of one cell. -/
theorem results_cell_one {P : Program} {fn : Func} {p : Tmp} {ty : TypeId} (h : fn.results = #[.cell p ty]) (tmps : Array Value) (w : World) (a : Addr) (v : Value)
    (hp : tmps.getD p undef = .pointer (some a)) (hc : w.cell? a = some v) (hagg : (isAgg ty).run P w = .ok false w) :
    (results fn tmps).run P w = .ok v w := by
  have hp' : tmps[p]?.getD undef = .pointer (some a) := by simpa using hp
  simp [results, h, hp', asAddr, loadVar, Sem.run_bind, hagg, hc]

/-- A fresh slice of ints. -/
def FreshInts (w : World) (xs : List Int) (e : Ending) (w' : World) : Prop :=
  ∃ v, e = .returned v ∧ w'.ownsRow w.heap.size 3 1 v xs.length (xs.map (Value.int .i64)) ∧ (v = .slice none 0 0 ↔ xs = []) ∧ Below w.heap.size w w'

set_option maxRecDepth 100000 in
set_option maxHeartbeats 2000000 in
theorem List_any (N : Nat) (w : World) (hT : Tab w) :
    Calls Tryz.prog 64 #[.agg (setA N)] w (FreshInts w (upTo N 1024)) := by
  refine (callsIn_wide (n := 5)).1 ?_
  obtain ⟨i0, hi, hz0, hz1, hz2⟩ := info_parts infoInt
  have hgT := hT.2
  refine callsIn_of_wp_marks Tryz.func64 rfl trivial ?_ rfl
  simp only [Tryz.ntmps64, List.size_toArray, List.length_cons, List.length_nil, Nat.reduceAdd, Nat.reduceSub, Array.replicate_succ, Array.replicate_zero, List.push_toArray, List.append_toArray, List.nil_append, List.cons_append]
  have hs : ((w.alloc (.cells (setA N) 70)).alloc (.cells #[.slice none 0 0] 22)).heap[w.heap.size]? = some (.cells (setA N) 70 (0, 0)) := (blk_old _ _ (by simp)).trans (blk_new w _)
  gi_wp2_with (first | (refine wpListIn_load_row rfl _ _ rfl _ rfl _ _ _ _ hs Tryz.underlying70 rfl (szSetA _) ?_) | (refine ⟨trivial, ?_⟩; gi_at_call 85; refine (each_in _ _ _).mono ?_; rintro e w' ⟨rfl, rfl⟩))
  have hB0 : Below w.heap.size w (((w.alloc (.cells (setA N) 70)).alloc (.cells #[.slice none 0 0] 22)).alloc (.cells (setA N) 70)) := (((Below.refl _ w).alloc (Nat.le_refl _) _).alloc (by simp) _).alloc (by simp; omega) _
  have h3 := blk_new ((w.alloc (.cells (setA N) 70)).alloc (.cells #[.slice none 0 0] 22)) (.cells (setA N) 70)
  rw [World.size_alloc, World.size_alloc] at h3
  have bO : Boxed (((w.alloc (.cells (setA N) 70)).alloc (.cells #[.slice none 0 0] 22)).alloc (.cells (setA N) 70)) (w.heap.size + 1) 22 (.slice none 0 0) := by
    have := Boxed.new (w.alloc (.cells (setA N) 70)) 22 (.slice none 0 0)
    rw [World.size_alloc] at this
    exact this.alloc _
  refine wpIn_rangeFunc_ownG rfl (by omega) (gf := 113) (lb := #[.pointer (some ⟨w.heap.size + 1 + 1, 0, none⟩)]) rfl trivial (enters_of Tryz.func113 (by kernel_rfl) rfl)
    (each_stops (5 - 1) (by omega) (w.heap.size + 1 + 1) w.heap.size N _ (by simp) h3 (hT.below hB0) hgT) belowK_t (belowK_b (by simp; omega)) (Below.refl _ _) (fun _ => rfl)
    (fun pre W => (∃ v, Boxed W (w.heap.size + 1) 22 v ∧ W.ownsRow w.heap.size 3 1 v pre.length (pre.map (Value.int .i64)) ∧ (v = .slice none 0 0 ↔ pre = [])) ∧ Below w.heap.size w W)
    (fun _ _ _ => False)
    (OwnFrom.and (Own.from (holdsRow_own w.heap.size (w.heap.size + 1) 22 3 1 (fun pre : List Int => pre.length) (fun pre => pre.map (Value.int .i64)) (fun pre v => v = .slice none 0 0 ↔ pre = [])) _) (ownFrom_below (Nat.le_refl _) (by simp; omega)))
    (fun _ _ _ _ _ hs _ _ => hs)
    ⟨⟨_, bO, World.ownsRow_nil _ _ _ _, by simp⟩, hB0⟩
    (fun x => { tmps := #[.agg (setA N), .pointer (some ⟨w.heap.size, 0, none⟩), .pointer (some ⟨w.heap.size + 1, 0, none⟩), .int .i64 x, .agg (setA N), .func (.func 113) #[] #[.pointer (some ⟨w.heap.size + 1 + 1, 0, none⟩)], .int .i64 x, undef, undef, undef, undef, undef], defers := [] }) ?assign ?body ?done ?stop
  case assign =>
    intro l x W K hK
    gi_wp2
    exact hK
  case body =>
    rintro l pre x W ⟨⟨v, hv, hrow, hnil⟩, hB⟩ hlt
    have hc := hv.cell
    gi_wp2_with (gi_at_builtin; refine wpListIn_append_own _ rfl _ _ 22 rfl w.heap.size 3 i0 (.int .i64 0) 1 8 Tryz.underlying22 hi hz0 hz1 hz2 rfl (by decide) _ _ _ rfl (hrow.alloc _) ⟨W.heap.size, 0, none⟩ 1 1 [.int .i64 x] rfl rfl (cell_one_new _ _ _) (by simp [Value.oneCell']) (by unfold maxLen; omega) (by omega) (by have := hB.size; simp; omega) ?_; intro v' w1 hown' hgrow _; obtain ⟨g', cap', rfl⟩ := ownsRow_succ hown'; obtain ⟨hv1, hv2, hr2, hk2, hb2⟩ := hv.appended (by decide) hrow hB.size (by omega) hown' hgrow; have hc1 := hv1.cell; have hf1 := hv1.frozen)
    exact ⟨hk2.from _, hb2, ⟨_, hv2, by simpa using hr2, by simp⟩, hB.trans hb2⟩
  case done =>
    rintro D ys W hD rfl ⟨⟨v, hv, hrow, hnil⟩, hB⟩ hK
    obtain ⟨A', c', rfl⟩ := own_form hrow
    have hc := hv.cell
    have hf := hv.frozen
    gi_wp2
    have hK2 : (W.setCell ⟨w.heap.size + 1, 0, none⟩ (.slice A' (upTo N 1024).length c')).heap[D]? = some (.deferred (some [])) := (KeepsOthers.setCell _ _ _).same D _ hK rfl
    have hB2 := hv.set (.slice A' (upTo N 1024).length c')
    have hDs : w.heap.size ≤ D := by simp at hD; omega
    have hne : D ≠ w.heap.size + 1 := by simp at hD; omega
    refine ⟨by simp, .inl ⟨_, _, rfl, run_takeDeferred hK2, ?_⟩⟩
    have hv3 : Boxed ((W.setCell ⟨w.heap.size + 1, 0, none⟩ (.slice A' (upTo N 1024).length c')).putObj D (.deferred none)) (w.heap.size + 1) 22 (.slice A' (upTo N 1024).length c') := hB2.kept (grownBy_putObj' _ _ _) (by simp; omega)
    refine ⟨_, results_cell_one rfl _ _ _ _ rfl hv3.cell (by kernel_rfl), _, rfl, ?_, hnil, ?_⟩
    · exact ownsRow_putObj (hrow.kept (grownBy_setCell' W _ _) (.inr (hv.not_row (by decide) hrow).symm)) _ hK2 rfl
    · exact (hB.setCell (p := ⟨w.heap.size + 1, 0, none⟩) (by simp) _).grown (grownBy_putObj' _ _ _) (by simp [World.setCell]; exact hB.size) (fun k e => by cases e; exact hDs)
  case stop =>
    rintro D c pre W _ _ h _
    exact h.elim

end Go.Proofs.YtjichaeegheacaaGreatDoor

/- App -/
/-
  append of ints that a slice reads (none too) onto a row of one's own.
-/
namespace Go.Proofs.YtjichaeegheacaaGreatDoor
open Go Go.RowKit

theorem drop_RI {w : World} {xs : List Int} {b off : Nat} (h : RI w (some ⟨b, off, none⟩) xs) (k : Nat) : RI w (some ⟨b, off + k, none⟩) (xs.drop k) := by
  refine ⟨Nat.le_trans (by simp) h.len, fun i hi => ?_, fun hm => ?_⟩
  · have hi' : k + i < xs.length := by simp at hi; omega
    have := h.rng (k + i) hi'
    simpa [gI] using this
  · have hm' : 0 < xs.length := by simp at hm; omega
    obtain ⟨b', off', e, hlt, hc⟩ := h.rd hm'
    cases e
    refine ⟨b, off + k, rfl, hlt, fun i hi => ?_⟩
    have hi' : k + i < xs.length := by simp at hi; omega
    have := hc (k + i) hi'
    rw [Nat.add_assoc, this]
    simp [gI]
theorem take_RI {w : World} {A : Option Addr} {xs : List Int} (h : RI w A xs) (k : Nat) : RI w A (xs.take k) := by
  refine ⟨Nat.le_trans (by simp; omega) h.len, fun i hi => ?_, fun hm => ?_⟩
  · have hi' : i < k ∧ i < xs.length := by simp at hi; omega
    have := h.rng i hi'.2
    simpa [gI, hi'.1] using this
  · have hm' : 0 < xs.length := by simp at hm; omega
    obtain ⟨b', off', e, hlt, hc⟩ := h.rd hm'
    refine ⟨b', off', e, hlt, fun i hi => ?_⟩
    have hi' : i < k ∧ i < xs.length := by simp at hi; omega
    rw [hc i hi'.2]
    simp [gI, hi'.1]

theorem Rd.news {w : World} {b off : Nat} {ys : List Int} (h : RI w (some ⟨b, off, none⟩) ys) : ∀ j u, (ys.map (Value.int .i64))[j]? = some u → w.cell? ((⟨b, off, none⟩ : Addr).add j) = some u := by
  intro j u hu
  rw [List.getElem?_map] at hu
  by_cases hj : j < ys.length
  · obtain ⟨b', off', e, hlt, hc⟩ := h.rd (by omega)
    cases e
    rw [gI_get hj] at hu
    cases hu
    have := hc j hj
    have hadd : (⟨b, off, none⟩ : Addr).add j = ⟨b, off + j, none⟩ := by unfold Addr.add; split <;> simp_all
    rw [hadd]; exact this
  · rw [List.getElem?_eq_none (by omega)] at hu
    cases hu

theorem grown_below {B : Nat} {w w' : World} {v : Value} (hg : w.grownBy w' v.ownBlock) (hB : B ≤ w.heap.size) (hv : ∀ k, v.ownBlock = some k → B ≤ k) : Below B w w' :=
  (Below.refl B w).grown hg hB hv

/-- A slice of ints that came in: its address has no odd spot, its length fits its capacity. -/
structure SI (w : World) (A : Option Addr) (c : Nat) (xs : List Int) : Prop where
  ri : RI w A xs
  cap : xs.length ≤ c
  spot : ∀ a, A = some a → a.spot = none
  nil : A = none → c = 0
theorem SI.none_nil {w : World} {c : Nat} {xs : List Int} (h : SI w none c xs) : xs = [] ∧ c = 0 := by
  have h0 := h.nil rfl
  have := h.cap
  exact ⟨List.eq_nil_of_length_eq_zero (by omega), h0⟩

theorem app_ints {w : World} {B : Nat} {ty : TypeId} {v : Value} {xs ys : List Int} {A : Option Addr} {c : Nat} (hown : w.ownsRow B 3 1 v xs.length (xs.map (Value.int .i64))) (hr : RI w A ys)
    (hA : A = none → ys = []) (hB : B ≤ w.heap.size) (hl : xs.length + ys.length ≤ 17592186044416) :
    ∃ v' w', (Builtin.append_ #[22, 22] ty #[v, .slice A ys.length c]).run Tryz.prog w = .ok v' w' ∧ w'.ownsRow B 3 1 v' (xs ++ ys).length ((xs ++ ys).map (Value.int .i64)) ∧ Below B w w' := by
  obtain ⟨i0, hi, hz0, hz1, hz2⟩ := info_parts infoInt
  cases A with
  | some a =>
    have ha : ys ≠ [] → a.spot = none := fun hne => by
      obtain ⟨b, off, e, _⟩ := hr.rd (List.length_pos_iff.2 hne)
      cases e; rfl
    have hnews : ∀ j u, (ys.map (Value.int .i64))[j]? = some u → w.cell? (a.add j) = some u := by
      intro j u hu
      have hj : ys ≠ [] := by rintro rfl; simp at hu
      obtain ⟨b, off, spot⟩ := a
      have := ha hj
      simp only at this
      subst this
      exact Rd.news hr j u hu
    obtain ⟨v', w', h1, h2, h3, h4, h5⟩ := run_append_own_at (P := Tryz.prog) w B 22 ty 3 i0 (.int .i64 0) 1 8 Tryz.underlying22 hi hz0 hz1 hz2 rfl (by decide) v xs.length _ hown a ys.length c (ys.map (Value.int .i64)) (by simp) hnews (by simp [Value.oneCell']) (by unfold maxLen; omega) (by omega) hB
    refine ⟨v', w', h1, ?_, grown_below h3 hB (fun k hk => (hown.lt k hk).1)⟩
    rw [List.length_append, List.map_append]; exact h2
  | none =>
    obtain rfl := hA rfl
    refine ⟨v, w, ?_, by simpa using hown, Below.refl _ _⟩
    have hsz : i0.size = 1 := hz1
    rcases hown.2 with ⟨rfl, h0⟩ | ⟨g, cap, cur, rfl, hbg, hg, hnc, hcm, hcs, htake⟩
    · simp [Builtin.append_, run_underlying Tryz.underlying22, sizeOf, typeInfo, run_program, hi, Builtin.lenOf, Builtin.firstCells]
    · simp [Builtin.append_, run_underlying Tryz.underlying22, sizeOf, typeInfo, run_program, hi, Builtin.lenOf, Builtin.firstCells, hnc, storeCells]

theorem step_app {ops : Array Oper} {o : Oper} {a : Act} {w : World} {K : Act → World → Prop} {Q : Exit → Act → World → Prop} {E : Prop} (hgd : o.guard = none) (s x : Operand)
    (ho : o.op = .call { callee := .builtin .append, args := #[s, x], argTypes := #[22, 22] }) (B : Nat) (v : Value) (hs : a.eval s = v) (xs : List Int) (hown : w.ownsRow B 3 1 v xs.length (xs.map (Value.int .i64)))
    (A : Option Addr) (c m : Nat) (hx : a.eval x = .slice A m c) (ys : List Int) (hm : m = ys.length) (hr : RI w A ys) (hA : A = none → ys = []) (hB : B ≤ w.heap.size) (hl : xs.length + ys.length ≤ 17592186044416)
    (h : ∀ v' w', w'.ownsRow B 3 1 v' (xs ++ ys).length ((xs ++ ys).map (Value.int .i64)) → Below B w w' → K (a.put o.dst v') w') : if Region.wanted o (yielded ops a.tmps) = true then Oper.wp Tryz.prog o a w K Q else E := by
  have hw : Region.wanted o (yielded ops a.tmps) = true := by simp [Region.wanted, hgd]
  rw [if_pos hw]
  subst hm
  obtain ⟨v', w', hrun, h2, h3⟩ := app_ints (ty := o.type) hown hr (c := c) hA hB hl
  unfold Oper.wp execOp
  simp only [ho, resolve, invoke, builtin, Sem.run_bind, Sem.run_pure, Result.andThen_ok, List.map_toArray, List.map_cons, List.map_nil, hs, hx, hrun]
  exact h v' w' h2 h3

end Go.Proofs.YtjichaeegheacaaGreatDoor

/- Term -/
/-
  Package ir: ends of blocks: what none, variable, fits answer.
-/
namespace Go.Proofs.YtjichaeegheacaaGreatDoor
open Go Go.RowKit

theorem noneLit_any (x : Int) (w : World) (hx : I64 x) :
    Calls Tryz.prog 138 #[.int .i64 x] w (fun e w' => e = .returned (.bool (x != 0)) ∧ w' = w) := by
  obtain ⟨h1, h2⟩ := hx
  by_cases h : x = 0
  · subst h
    go_enter Tryz.func138, Tryz.ntmps138
    go_wp2
    go_ret
    exact ⟨rfl, rfl⟩
  · have e : (x != 0) = true := by simpa using h
    rw [e]
    have hd : decide (x = 0) = false := decide_eq_false h
    go_enter Tryz.func138, Tryz.ntmps138
    go_wp2
    go_ret
    exact ⟨rfl, rfl⟩

theorem variable_any (x : Int) (w : World) (hx : I64 x) :
    Calls Tryz.prog 111 #[.int .i64 x] w (fun e w' => e = .returned (.bool (decide (1 ≤ x) && decide (x ≤ 200))) ∧ w' = w) := by
  obtain ⟨h1, h2⟩ := hx
  by_cases h : 1 ≤ x
  · have hd : decide (1 ≤ x) = true := decide_eq_true h
    have hd2 : decide (x ≥ 1) = true := decide_eq_true h
    rw [hd, Bool.true_and]
    go_enter Tryz.func111, Tryz.ntmps111
    go_wp2
    go_ret
    exact ⟨rfl, rfl⟩
  · have hd : decide (1 ≤ x) = false := decide_eq_false h
    have hd2 : decide (x ≥ 1) = false := decide_eq_false h
    rw [hd, Bool.false_and]
    go_enter Tryz.func111, Tryz.ntmps111
    go_wp2
    go_ret
    exact ⟨rfl, rfl⟩

theorem fits_any (b : Bool) (x : Int) (w : World) (hx : I64 x) :
    Calls Tryz.prog 112 #[.bool b, .int .i64 x] w (fun e w' => e = .returned (.bool (if b then decide (1 ≤ x) && decide (x ≤ 200) else decide (x = 0))) ∧ w' = w) := by
  cases b
  · go_enter Tryz.func112, Tryz.ntmps112
    obtain ⟨h1, h2⟩ := hx
    go_wp2
    go_ret
    exact ⟨rfl, rfl⟩
  · go_enter Tryz.func112, Tryz.ntmps112
    go_wp2_with fail
    refine (variable_any x w hx).mono ?_
    rintro e w' ⟨rfl, rfl⟩
    go_wp2
    go_ret
    exact ⟨rfl, rfl⟩

/-- The first k are all 0. -/
def Zeros (xs : List Int) (k : Nat) : Prop := ∀ i, i < k → gI xs i = 0

theorem IndexFunc_none (A : Option Addr) (c : Nat) (xs : List Int) (w : World) (hr : RI w A xs) :
    Calls Tryz.prog 142 #[.slice A xs.length c, .func (.func 138) #[] #[]] w (fun e w' => ∃ r : Int, e = .returned (.int .i64 r) ∧ w' = w ∧ (decide (r ≥ 0) = xs.any (· != 0))) := by
  go_enter Tryz.func142, Tryz.ntmps142
  have hl := hr.len
  go_wp2
  go_loopw [8] (fun r W => ∃ k : Nat, k ≤ xs.length ∧ r = .int .i64 k ∧ Zeros xs k ∧ W = w) (fun r _ => xs.length - (intOf r).toNat)
  case atStart => exact ⟨0, Nat.zero_le _, rfl, fun _ h => absurd h (Nat.not_lt_zero _), rfl⟩
  case round =>
    obtain ⟨k, hk, rfl, hz, rfl⟩ := hrel
    by_cases h1 : k < xs.length
    · have hd : decide ((k : Int) < (xs.length : Int)) = true := by simp [h1]
      obtain ⟨b, off, rfl, hlt, hcell, hx⟩ := hr.at_ h1
      by_cases h0 : gI xs k = 0
      · have hz' : Zeros xs (k + 1) := fun i hi => by
          by_cases e : i = k
          · rw [e]; exact h0
          · exact hz i (by omega)
        have q := noneLit_any 0 wr ⟨by decide, by decide⟩
        rw [show ((0 : Int) != 0) = false from rfl] at q
        go_wp2_with fail
        refine q.mono ?_
        rintro e w' ⟨rfl, rfl⟩
        go_wp2
        go_roundw
        case rel => exact ⟨k + 1, by omega, by go_num, hz', by trivial⟩
        case measure => simp [intOf]; omega
      · have q := noneLit_any (gI xs k) wr hx
        rw [show (gI xs k != 0) = true by simpa using h0] at q
        have hany : xs.any (· != 0) = true := by
          rw [List.any_eq_true]; exact ⟨gI xs k, gI_mem h1, by simpa using h0⟩
        have hany' := Lib.hid hany
        clear hany
        go_wp2_with fail
        refine q.mono ?_
        rintro e w' ⟨rfl, rfl⟩
        go_wp2
        go_ret
        exact ⟨k, rfl, rfl, by rw [hany'.out]; exact decide_eq_true (by omega)⟩
    · obtain rfl : k = xs.length := by omega
      have hd : decide ((xs.length : Int) < (xs.length : Int)) = false := by simp
      have hany : xs.any (· != 0) = false := by
        rw [List.any_eq_false]
        intro x hx
        obtain ⟨i, hi, rfl⟩ := List.mem_iff_getElem.1 hx
        have := hz i hi
        rw [gI_eq hi] at this
        simpa using this
      have hany' := Lib.hid hany
      clear hany
      go_wp2
      go_ret
      exact ⟨-1, rfl, rfl, by rw [hany'.out]; rfl⟩

theorem ContainsFunc_none (A : Option Addr) (c : Nat) (xs : List Int) (w : World) (hr : RI w A xs) :
    Calls Tryz.prog 137 #[.slice A xs.length c, .func (.func 138) #[] #[]] w (fun e w' => e = .returned (.bool (xs.any (· != 0))) ∧ w' = w) := by
  have q := IndexFunc_none A c xs w hr
  generalize xs.any (· != 0) = b at *
  go_enter Tryz.func137, Tryz.ntmps137
  go_wp2_with fail
  refine q.mono ?_
  rintro e w' ⟨r, rfl, rfl, hd⟩
  go_wp2
  go_ret
  exact ⟨rfl, rfl⟩

theorem none_any (A : Option Addr) (c : Nat) (xs : List Int) (w : World) (hr : RI w A xs) :
    Calls Tryz.prog 110 #[.slice A xs.length c] w (fun e w' => e = .returned (.bool (!xs.any (· != 0))) ∧ w' = w) := by
  have q := ContainsFunc_none A c xs w hr
  generalize xs.any (· != 0) = b at *
  go_enter Tryz.func110, Tryz.ntmps110
  go_wp2_with fail
  refine q.mono ?_
  rintro e w' ⟨rfl, rfl⟩
  cases b
  · go_wp2
    go_ret
    exact ⟨rfl, rfl⟩
  · go_wp2
    go_ret
    exact ⟨rfl, rfl⟩

end Go.Proofs.YtjichaeegheacaaGreatDoor

/- Of -/
/-
  bits.Of: a set of some numbers.
-/
namespace Go.Proofs.YtjichaeegheacaaGreatDoor
open Go Go.RowKit

theorem setA_zero : setA 0 = #[.int .u64 0, .int .u64 0, .int .u64 0, .int .u64 0, .int .u64 0, .int .u64 0, .int .u64 0, .int .u64 0, .int .u64 0, .int .u64 0, .int .u64 0, .int .u64 0, .int .u64 0, .int .u64 0, .int .u64 0, .int .u64 0] := by
  kernel_rfl

theorem With_zero (A : Option Addr) (c : Nat) (xs : List Int) (w : World) (hr : RI w A xs) :
    Calls Tryz.prog 59 #[.agg #[.int .u64 0, .int .u64 0, .int .u64 0, .int .u64 0, .int .u64 0, .int .u64 0, .int .u64 0, .int .u64 0, .int .u64 0, .int .u64 0, .int .u64 0, .int .u64 0, .int .u64 0, .int .u64 0, .int .u64 0, .int .u64 0], .slice A xs.length c] w (Fresh w (.agg (setA (withL 0 xs)))) := by
  have := With_any 0 A c xs w hr
  rw [setA_zero] at this
  exact this

set_option maxHeartbeats 400000 in
theorem Of_any (A : Option Addr) (c : Nat) (xs : List Int) (w : World) (hr : RI w A xs) :
    Calls Tryz.prog 63 #[.slice A xs.length c] w (Fresh w (.agg (setA (withL 0 xs)))) := by
  go_enter Tryz.func63, Tryz.ntmps63
  go_wp2_with fail
  have hn := blk_new w (.cells #[.int .u64 0, .int .u64 0, .int .u64 0, .int .u64 0, .int .u64 0, .int .u64 0, .int .u64 0, .int .u64 0, .int .u64 0, .int .u64 0, .int .u64 0, .int .u64 0, .int .u64 0, .int .u64 0, .int .u64 0, .int .u64 0] 70)
  have hB0 : Below w.heap.size w (w.alloc (.cells #[.int .u64 0, .int .u64 0, .int .u64 0, .int .u64 0, .int .u64 0, .int .u64 0, .int .u64 0, .int .u64 0, .int .u64 0, .int .u64 0, .int .u64 0, .int .u64 0, .int .u64 0, .int .u64 0, .int .u64 0, .int .u64 0] 70)) := (Below.refl _ _).alloc (Nat.le_refl _) _
  refine (With_zero _ _ _ _ (hr.below hB0)).mono ?_
  rintro e w1 ⟨rfl, hb⟩
  have hr1 := blk_below hb hn (by simp)
  have hb1 := hB0.trans (hb.mono hB0.size)
  clear hb hn hB0
  go_wp2_with (refine wpList_store_row rfl _ _ _ rfl _ _ rfl rfl _ _ hr1 (szSetA _) (by rw [setA_size]; rfl) (oneCell_setA _) ?_)
  exact bodyPost_ret (results_cell_row rfl _ _ _ _ _ _ _ rfl (blk_setRow hr1) Tryz.underlying70 rfl (szSetA _)) rfl ⟨rfl, below_setRow hb1 (Nat.le_refl _) _⟩

end Go.Proofs.YtjichaeegheacaaGreatDoor
