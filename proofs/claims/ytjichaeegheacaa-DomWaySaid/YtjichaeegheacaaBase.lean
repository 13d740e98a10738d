
/-
  Small words for the walks of this seat: what a slice of ints reads, blocks of the heap, the bit operations of uint64 and int on natural numbers. Nothing here names the program.
-/
import Derived.Test.YtjichaeegheacaaSets
import Derived.WalkKit
import Derived.WalkLawsBesides
import Derived.WalkSpells
import Derived.KernelRfl
import Derived.Deep.QuietTactic
import Derived.BigQuiet
import Derived.Lib.Hide
namespace Go.Proofs.Ytjichaeegheacaa
open Go Go.RowKit

/-- An int of Go's. -/
def I64 (n : Int) : Prop := -9223372036854775808 ≤ n ∧ n ≤ 9223372036854775807
/-- Element i of a list of ints. -/
def gI (xs : List Int) (i : Nat) : Int := xs[i]?.getD 0

theorem gI_eq {xs : List Int} {i : Nat} (h : i < xs.length) : gI xs i = xs[i] := by simp [gI, h]
theorem gI_get {xs : List Int} {i : Nat} (h : i < xs.length) : xs[i]? = some (gI xs i) := by simp [gI, h]
theorem gI_mem {xs : List Int} {i : Nat} (h : i < xs.length) : gI xs i ∈ xs := by rw [gI_eq h]; exact List.getElem_mem h
theorem I64.of_mem {xs : List Int} (h : ∀ i, i < xs.length → I64 (gI xs i)) {x : Int} (hx : x ∈ xs) : I64 x := by
  obtain ⟨i, hi, rfl⟩ := List.mem_iff_getElem.1 hx
  have := h i hi
  rwa [gI_eq hi] at this

/-- The cells that a slice reads: m of them, from its address on. -/
def Rd (w : World) (A : Option Addr) (m : Nat) (cell : Nat → Value) : Prop :=
  0 < m → ∃ b off, A = some ⟨b, off, none⟩ ∧ b < w.heap.size ∧ ∀ i, i < m → w.cell? ⟨b, off + i, none⟩ = some (cell i)
theorem Rd.below {w w' : World} {A : Option Addr} {m : Nat} {cell : Nat → Value} (h : Rd w A m cell) (hb : Below w.heap.size w w') : Rd w' A m cell := by
  intro hm
  obtain ⟨b, off, e, hlt, hc⟩ := h hm
  exact ⟨b, off, e, Nat.lt_of_lt_of_le hlt hb.size, fun i hi => (hb.cell (p := ⟨b, off + i, none⟩) hlt).trans (hc i hi)⟩

/-- A slice of ints. -/
structure RI (w : World) (A : Option Addr) (xs : List Int) : Prop where
  len : xs.length ≤ 140737488355328
  rng : ∀ i, i < xs.length → I64 (gI xs i)
  rd : Rd w A xs.length (fun i => .int .i64 (gI xs i))
theorem RI.below {w w' : World} {A : Option Addr} {xs : List Int} (h : RI w A xs) (hb : Below w.heap.size w w') : RI w' A xs := ⟨h.len, h.rng, h.rd.below hb⟩
theorem RI.nil (w : World) (A : Option Addr) : RI w A [] := ⟨Nat.zero_le _, fun _ hi => absurd hi (Nat.not_lt_zero _), fun hm => absurd hm (Nat.lt_irrefl 0)⟩
/-- Element k, where it lies. -/
theorem RI.at_ {w : World} {A : Option Addr} {xs : List Int} (h : RI w A xs) {k : Nat} (hk : k < xs.length) :
    ∃ b off, A = some ⟨b, off, none⟩ ∧ b < w.heap.size ∧ w.cell? ⟨b, off + k, none⟩ = some (.int .i64 (gI xs k)) ∧ I64 (gI xs k) := by
  obtain ⟨b, off, e, hlt, hc⟩ := h.rd (by omega)
  exact ⟨b, off, e, hlt, hc k hk, h.rng k hk⟩

theorem gI_append_left {xs ys : List Int} {i : Nat} (h : i < xs.length) : gI (xs ++ ys) i = gI xs i := by simp [gI, List.getElem?_append_left h]

/-- A row of its own reads so. -/
theorem own_RI {w : World} {base n : Nat} {e : TypeId} {v : Value} {xs : List Int} (h : w.ownsRow base e 1 v n (xs.map (Value.int .i64))) (hx : ∀ x ∈ xs, I64 x) (hl : xs.length ≤ 140737488355328) :
    ∃ A c, v = .slice A xs.length c ∧ xs.length ≤ c ∧ RI w A xs := by
  obtain ⟨h1, h2⟩ := h
  have hn : n = xs.length := by simpa using h1.symm
  subst hn
  have hr : ∀ i, i < xs.length → I64 (gI xs i) := fun i hi => hx _ (gI_mem hi)
  rcases h2 with ⟨rfl, h0⟩ | ⟨g, cap, cur, rfl, hg, hh, hc, hcap, hsz, htake⟩
  · have : xs = [] := List.eq_nil_of_length_eq_zero h0
    subst this
    exact ⟨none, 0, rfl, Nat.le_refl _, RI.nil _ _⟩
  · refine ⟨some ⟨g, 0, none⟩, cap, rfl, hc, hl, hr, fun _ => ⟨g, 0, rfl, (Array.getElem?_eq_some_iff.1 hh).1, fun i hi => ?_⟩⟩
    rw [cell_of_row w g _ cur e (0, 0) hh]
    have : cur.toList[0 + i]? = some (.int .i64 (gI xs i)) := by
      have hm := congrArg (fun l : List Value => l[i]?) htake
      simp only [Nat.mul_one, List.getElem?_take, if_pos hi, List.getElem?_map, gI_get hi, Option.map_some] at hm
      rw [Nat.zero_add]; exact hm
    rw [← this]; simp

theorem own_form {w : World} {base n : Nat} {e size : Nat} {v : Value} {xs : List Value} (h : w.ownsRow base e size v n xs) : ∃ A c, v = .slice A n c := by
  obtain ⟨_, h2⟩ := h
  rcases h2 with ⟨rfl, rfl⟩ | ⟨g, cap, cur, rfl, _⟩
  · exact ⟨_, _, rfl⟩
  · exact ⟨_, _, rfl⟩
theorem own_base {w : World} {base n : Nat} {e size : Nat} {v : Value} {xs : List Value} (h : w.ownsRow base e size v n xs) : ∀ k, v.ownBlock = some k → base ≤ k := by
  obtain ⟨_, h2⟩ := h
  intro k hk
  rcases h2 with ⟨rfl, _⟩ | ⟨g, cap, cur, rfl, hg, _⟩
  · cases hk
  · cases hk; exact hg

/- Blocks. -/
theorem blk_new (w : World) (o : Obj) : (w.alloc o).heap[w.heap.size]? = some o := heap_alloc_new w o
theorem blk_new1 (w : World) (o o' : Obj) : ((w.alloc o).alloc o').heap[w.heap.size + 1]? = some o' := heap_alloc2_new w o o'
theorem blk_old (w : World) (o : Obj) {k : Nat} (h : k < w.heap.size) : (w.alloc o).heap[k]? = w.heap[k]? := Below.heap_alloc w o k h
theorem blk_lt {w : World} {g : Nat} {o : Obj} (h : w.heap[g]? = some o) : g < w.heap.size := (Array.getElem?_eq_some_iff.1 h).1
theorem blk_below {B : Nat} {w w' : World} (h : Below B w w') {g : Nat} {o : Obj} (hg : w.heap[g]? = some o) (hlt : g < B) : w'.heap[g]? = some o := (h.block g hlt).trans hg
theorem blk_set {w : World} {g t i : Nat} {cs : Array Value} {v : Value} (h : w.heap[g]? = some (.cells cs t (0, 0))) :
    (w.setCell ⟨g, i, none⟩ v).heap[g]? = some (.cells (cs.setIfInBounds i v) t (0, 0)) := heap_setCell_same w g i cs t v h
theorem blk_far {w : World} {p : Addr} {g : Nat} (hne : g ≠ p.block) {v : Value} : (w.setCell p v).heap[g]? = w.heap[g]? := Below.heap_setCell w p v g hne
theorem blk_setRow {w : World} {g t : Nat} {cs cs' : Array Value} (h : w.heap[g]? = some (.cells cs t (0, 0))) :
    (w.setRow g cs').heap[g]? = some (.cells cs' t (0, 0)) := setRow_heap w g cs cs' t _ h
theorem blk_setRow_far {w : World} {g k : Nat} {cs' : Array Value} (hne : k ≠ g) : (w.setRow g cs').heap[k]? = w.heap[k]? := by
  simp only [World.setRow, Array.getElem?_modify]
  rw [if_neg (fun e => hne e.symm)]
theorem below_setRow {B : Nat} {a w : World} (h : Below B a w) {g : Nat} (hg : B ≤ g) (cs : Array Value) : Below B a (w.setRow g cs) :=
  h.trans ⟨rfl, rfl, rfl, by simp, fun k hk => blk_setRow_far (by omega)⟩

/- Numbers. -/
theorem wrap_u64_in (n : Int) (h0 : 0 ≤ n) (h : n < 18446744073709551616) : IntKind.u64.wrap n = n := by
  have : IntKind.u64.wrap n = n % 18446744073709551616 := by simp [IntKind.wrap, IntKind.bits, IntKind.signed]
  rw [this]; omega
theorem wrap_u64_out (n : Int) (h0 : I64 n) (h : inR n = false) : decide (IntKind.u64.wrap n < 1024) = false := by
  have : IntKind.u64.wrap n = n % 18446744073709551616 := by simp [IntKind.wrap, IntKind.bits, IntKind.signed]
  have h' : ¬ (0 ≤ n ∧ n < 1024) := fun e => by rw [(inR_iff n).2 e] at h; cases h
  obtain ⟨h1, h2⟩ := h0
  rw [this]; simp; omega
theorem and63 (x : Int) (h0 : 0 ≤ x) (h1 : x < 1024) : bits .and .i64 x 63 = x % 64 :=
  bits_mask .i64 63 (by decide) (fun n a b => by rw [IntKind.wrap_i64]; omega) 6 (by decide) x h0 (by omega)
/-- Words by names that no tactic looks behind: one bit; both, either, the first less the second. -/
def bitW (k : Nat) : Nat := 1 <<< k
def orW (a b : Nat) : Nat := a ||| b
def andW (a b : Nat) : Nat := a &&& b
def lessW (a b : Nat) : Nat := a ^^^ (a &&& b)
theorem bitW_lt {k : Nat} (h : k < 64) : bitW k < 18446744073709551616 := by
  unfold bitW; rw [Nat.one_shiftLeft]; exact Nat.pow_lt_pow_right (a := 2) (m := k) (n := 64) (by decide) h
theorem shl_one (k : Nat) (h : k < 64) : IntKind.u64.wrap (2 ^ k) = ((bitW k : Nat) : Int) := by
  have h1 := bitW_lt h
  unfold bitW at *
  rw [Nat.one_shiftLeft] at *
  have e : ((2 : Int) ^ k) = ((2 ^ k : Nat) : Int) := (Int.natCast_pow 2 k).symm
  rw [e]
  generalize (2 : Nat) ^ k = q at *
  exact wrap_u64_in _ (Int.natCast_nonneg _) (by omega)
theorem or_u64 {a b : Nat} (ha : a < 18446744073709551616) (hb : b < 18446744073709551616) : bits .or .u64 (a : Int) (b : Int) = ((orW a b : Nat) : Int) := bits_or_u64_nat a b ha hb
theorem and_u64 {a b : Nat} (ha : a < 18446744073709551616) (hb : b < 18446744073709551616) : bits .and .u64 (a : Int) (b : Int) = ((andW a b : Nat) : Int) := bits_and_u64_nat a b ha hb
theorem less_u64 {a b : Nat} (ha : a < 18446744073709551616) (hb : b < 18446744073709551616) : bits .andNot .u64 (a : Int) (b : Int) = ((lessW a b : Nat) : Int) := by
  have hx : a ^^^ (a &&& b) < 2 ^ 64 := Nat.xor_lt_two_pow (by omega) (Nat.and_lt_two_pow _ (by omega))
  have h1 : BitVec.ofInt 64 (a : Int) = BitVec.ofNat 64 a := BitVec.ofInt_natCast ..
  have h2 : BitVec.ofInt 64 (b : Int) = BitVec.ofNat 64 b := BitVec.ofInt_natCast ..
  show IntKind.u64.wrap (((BitVec.ofInt 64 (a : Int)) &&& ~~~(BitVec.ofInt 64 (b : Int))).toNat : Int) = _
  have e : ((BitVec.ofInt 64 (a : Int)) &&& ~~~(BitVec.ofInt 64 (b : Int))).toNat = a ^^^ (a &&& b) := by
    rw [h1, h2]
    apply Nat.eq_of_testBit_eq
    intro j
    rw [BitVec.testBit_toNat, Nat.testBit_xor, Nat.testBit_and]
    by_cases hj : j < 64
    · rw [BitVec.getLsbD_and, BitVec.getLsbD_not, BitVec.getLsbD_ofNat, BitVec.getLsbD_ofNat]
      simp only [hj, decide_true, Bool.true_and]
      cases a.testBit j <;> cases b.testBit j <;> rfl
    · have ea : a.testBit j = false := Nat.testBit_lt_two_pow (Nat.lt_of_lt_of_le ha (by exact Nat.pow_le_pow_right (n := 2) (by decide) (show 64 ≤ j by omega)))
      rw [BitVec.getLsbD_of_ge _ _ (by omega), ea]; rfl
  rw [e]
  unfold lessW
  generalize a ^^^ (a &&& b) = q at *
  exact wrap_u64_in _ (Int.natCast_nonneg _) (by omega)

theorem oneCell_setA (N : Nat) : (setA N).all (·.oneCell') = true := by
  rw [Array.all_eq_true]
  intro i hi
  have h := setA_get N i (by rw [setA_size] at hi; exact hi)
  rw [Array.getElem?_eq_getElem hi] at h
  rw [Option.some.inj h]; rfl

/-- Word n / 64 written anew: the set with n more, without n. -/
theorem setA_add {N n : Nat} : (setA N).setIfInBounds (n / 64) (.int .u64 ((orW (wd N (n / 64)) (bitW (n % 64)) : Nat) : Int)) = setA (addN N n) := by
  apply setA_of
  · simp [setA_size]
  · intro i hi
    rw [wd_addN, Array.getElem?_setIfInBounds]
    by_cases e : n / 64 = i
    · subst e; rw [if_pos rfl, if_pos rfl, if_pos (by rw [setA_size]; exact hi)]; rfl
    · rw [if_neg e, if_neg (fun q => e q.symm)]; exact setA_get N i hi
theorem setA_del {N n : Nat} : (setA N).setIfInBounds (n / 64) (.int .u64 ((lessW (wd N (n / 64)) (bitW (n % 64)) : Nat) : Int)) = setA (delN N n) := by
  apply setA_of
  · simp [setA_size]
  · intro i hi
    rw [wd_delN, Array.getElem?_setIfInBounds]
    by_cases e : n / 64 = i
    · subst e; rw [if_pos rfl, if_pos rfl, if_pos (by rw [setA_size]; exact hi)]; rfl
    · rw [if_neg e, if_neg (fun q => e q.symm)]; exact setA_get N i hi

/-- The words of a set that is made anew word by word: the first k of them are L's, the others N's. -/
def Mix (cs : Array Value) (L N k : Nat) : Prop := cs.size = 16 ∧ ∀ i, i < 16 → cs[i]? = some (.int .u64 ((if i < k then wd L i else wd N i : Nat) : Int))
theorem Mix.start (L N : Nat) : Mix (setA N) L N 0 := ⟨setA_size N, fun i hi => by rw [if_neg (Nat.not_lt_zero _)]; exact setA_get N i hi⟩
theorem Mix.step {cs : Array Value} {L N k : Nat} (h : Mix cs L N k) (hk : k < 16) {x : Int} (hx : x = ((wd L k : Nat) : Int)) : Mix (cs.setIfInBounds k (.int .u64 x)) L N (k + 1) := by
  refine ⟨by simp [h.1], fun i hi => ?_⟩
  rw [Array.getElem?_setIfInBounds]
  by_cases e : k = i
  · subst e; rw [if_pos rfl, if_pos (by rw [h.1]; exact hk), if_pos (by omega), hx]
  · rw [if_neg e, h.2 i hi]
    by_cases q : i < k
    · rw [if_pos q, if_pos (by omega)]
    · rw [if_neg q, if_neg (by omega)]
theorem Mix.done {cs : Array Value} {L N : Nat} (h : Mix cs L N 16) : cs = setA L := setA_of h.1 (fun i hi => by rw [h.2 i hi, if_pos hi])

/-- What the program asks of a word: its bit. -/
theorem has_bit (x k : Nat) (hx : x < 18446744073709551616) : (bits .and .u64 ((x : Int) / 2 ^ k) 1 == 1) = x.testBit k := by
  have e : ((x : Int) / 2 ^ k) = ((x / 2 ^ k : Nat) : Int) := by
    rw [Int.natCast_ediv, Int.natCast_pow]; rfl
  have hq : x / 2 ^ k < 18446744073709551616 := Nat.lt_of_le_of_lt (Nat.div_le_self _ _) hx
  rw [e, show (1 : Int) = ((1 : Nat) : Int) from rfl, bits_and_u64_nat _ 1 hq (by decide), Nat.testBit, Nat.and_comm, Nat.shiftRight_eq_div_pow]
  generalize x / 2 ^ k = q
  rw [Nat.and_comm, Nat.and_one_is_mod]
  have : q % 2 = 0 ∨ q % 2 = 1 := by omega
  rcases this with h | h <;> simp [h]

end Go.Proofs.Ytjichaeegheacaa
