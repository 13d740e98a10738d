/-
  How many bits a word has, as math/bits counts them: pairs, fours, bytes, and their sum. Plain Lean.
-/
import Derived.Test.YtjichaeegheacaaDoorWords
namespace Go.Proofs.YtjichaeegheacaaDoor
open Go

/-- The sum of the first n digits of y to the base b; that each is at most m. -/
def sF (b : Nat) : Nat → Nat → Nat
  | 0, _ => 0
  | n + 1, y => y % b + sF b n (y / b)
def bd (b m : Nat) : Nat → Nat → Prop
  | 0, _ => True
  | n + 1, y => y % b ≤ m ∧ bd b m n (y / b)

/-- A mask of n digits v to the base b. -/
def mask (b v : Nat) : Nat → Nat
  | 0 => 0
  | n + 1 => v + b * mask b v n

theorem and_split (k a b c d : Nat) (ha : a < 2 ^ k) (hc : c < 2 ^ k) : (a + 2 ^ k * b) &&& (c + 2 ^ k * d) = (a &&& c) + 2 ^ k * (b &&& d) := by
  apply Nat.eq_of_testBit_eq
  intro j
  have hac : a &&& c < 2 ^ k := Nat.lt_of_le_of_lt Nat.and_le_left ha
  rw [Nat.testBit_and, Nat.add_comm a, Nat.add_comm c, Nat.add_comm (a &&& c), Nat.testBit_two_pow_mul_add _ ha, Nat.testBit_two_pow_mul_add _ hc, Nat.testBit_two_pow_mul_add _ hac]
  split
  · rw [Nat.testBit_and]
  · rw [Nat.testBit_and]

theorem and_mask (k v n y : Nat) (hv : v < 2 ^ k) : y &&& mask (2 ^ k) v (n + 1) = (y % 2 ^ k &&& v) + 2 ^ k * (y / 2 ^ k &&& mask (2 ^ k) v n) := by
  have h := and_split k (y % 2 ^ k) (y / 2 ^ k) v (mask (2 ^ k) v n) (Nat.mod_lt _ (Nat.two_pow_pos k)) hv
  rw [Nat.mod_add_div] at h
  exact h

def stA (n x : Nat) : Nat := (x / 2 &&& mask 4 1 n) + (x &&& mask 4 1 n)
def stB (n y : Nat) : Nat := (y / 4 &&& mask 16 3 n) + (y &&& mask 16 3 n)
def stC (n z : Nat) : Nat := (z / 16 + z) &&& mask 256 15 n

theorem and1 (a : Nat) : a &&& 1 = a % 2 := Nat.and_one_is_mod a
theorem and3 (a : Nat) : a &&& 3 = a % 4 := Nat.and_two_pow_sub_one_eq_mod a 2
theorem and15 (a : Nat) : a &&& 15 = a % 16 := Nat.and_two_pow_sub_one_eq_mod a 4

theorem stA_succ (n x : Nat) : stA (n + 1) x = (x % 2 + x / 2 % 2) + 4 * stA n (x / 4) := by
  unfold stA
  have h1 := and_mask 2 1 n (x / 2) (by decide)
  have h2 := and_mask 2 1 n x (by decide)
  simp only [Nat.reducePow] at h1 h2
  rw [h1, h2, and1, and1, show x / 2 / 4 = x / 4 / 2 by omega]
  omega
theorem stB_succ (n y : Nat) : stB (n + 1) y = (y % 4 + y / 4 % 4) + 16 * stB n (y / 16) := by
  unfold stB
  have h1 := and_mask 4 3 n (y / 4) (by decide)
  have h2 := and_mask 4 3 n y (by decide)
  simp only [Nat.reducePow] at h1 h2
  rw [h1, h2, and3, and3, show y / 4 / 16 = y / 16 / 4 by omega]
  omega
theorem stC_succ (n z : Nat) (h0 : z % 16 ≤ 4) (h1 : z / 16 % 16 ≤ 4) (h2 : z / 256 % 16 ≤ 4) : stC (n + 1) z = (z % 16 + z / 16 % 16) + 256 * stC n (z / 256) := by
  unfold stC
  have h := and_mask 8 15 n (z / 16 + z) (by decide)
  simp only [Nat.reducePow] at h
  have e1 : (z / 16 + z) / 256 = z / 256 / 16 + z / 256 := by
    obtain ⟨q, hq⟩ : ∃ q, q = z / 256 := ⟨_, rfl⟩
    obtain ⟨n1, hn1⟩ : ∃ q, q = z / 16 % 16 := ⟨_, rfl⟩
    obtain ⟨n0, hn0⟩ : ∃ q, q = z % 16 := ⟨_, rfl⟩
    have g1 : z = 256 * q + 16 * n1 + n0 := by omega
    have g2 : z / 16 = 16 * q + n1 := by omega
    obtain ⟨q1, hq1⟩ : ∃ x, x = q / 16 := ⟨_, rfl⟩
    obtain ⟨q0, hq0⟩ : ∃ x, x = q % 16 := ⟨_, rfl⟩
    have g3 : q = 16 * q1 + q0 := by omega
    rw [← hn1] at h1
    rw [← hn0] at h0
    rw [g2, ← hq, ← hq1]
    rw [← hq, ← hq0] at h2
    clear hq1 hq0 hq hn1 hn0 g2
    omega
  have e2 : (z / 16 + z) % 256 % 16 = z % 16 + z / 16 % 16 := by omega
  rw [h, and15, e1, e2]

theorem stA_sum : ∀ n x, sF 4 n (stA n x) = sF 2 (n + n) x ∧ bd 4 2 n (stA n x)
  | 0, x => ⟨rfl, trivial⟩
  | n + 1, x => by
    obtain ⟨h1, h2⟩ := stA_sum n (x / 4)
    have e1 : stA (n + 1) x % 4 = x % 2 + x / 2 % 2 := by rw [stA_succ]; omega
    have e2 : stA (n + 1) x / 4 = stA n (x / 4) := by rw [stA_succ]; omega
    constructor
    · rw [sF, e1, e2, h1, show n + 1 + (n + 1) = (n + n + 1) + 1 by omega, sF, sF, show x / 2 / 2 = x / 4 by omega]
      omega
    · rw [bd, e1, e2]; exact ⟨by omega, h2⟩
theorem stB_sum : ∀ n y, bd 4 2 (n + n) y → sF 16 n (stB n y) = sF 4 (n + n) y ∧ bd 16 4 n (stB n y)
  | 0, y, _ => ⟨rfl, trivial⟩
  | n + 1, y, hb => by
    rw [show n + 1 + (n + 1) = (n + n + 1) + 1 by omega, bd, bd, show y / 4 / 4 = y / 16 by omega] at hb
    obtain ⟨b1, b2, b3⟩ := hb
    obtain ⟨h1, h2⟩ := stB_sum n (y / 16) b3
    have e1 : stB (n + 1) y % 16 = y % 4 + y / 4 % 4 := by rw [stB_succ]; omega
    have e2 : stB (n + 1) y / 16 = stB n (y / 16) := by rw [stB_succ]; omega
    constructor
    · rw [sF, e1, e2, h1, show n + 1 + (n + 1) = (n + n + 1) + 1 by omega, sF, sF, show y / 4 / 4 = y / 16 by omega]
      omega
    · rw [bd, e1, e2]; exact ⟨by omega, h2⟩
theorem bd_head {b m n y : Nat} (h : bd b m n y) (hy : n = 0 → y = 0) : y % b ≤ m := by
  cases n with
  | zero => rw [hy rfl]; simp
  | succ n => exact h.1
theorem stC_sum : ∀ n z, bd 16 4 (n + n) z → z < 256 ^ n → sF 256 n (stC n z) = sF 16 (n + n) z ∧ bd 256 8 n (stC n z) ∧ stC n z < 256 ^ n
  | 0, z, _, hz => ⟨rfl, trivial, by simp [stC, mask]⟩
  | n + 1, z, hb, hz => by
    rw [show n + 1 + (n + 1) = (n + n + 1) + 1 by omega, bd, bd, show z / 16 / 16 = z / 256 by omega] at hb
    obtain ⟨b1, b2, b3⟩ := hb
    have hz' : z / 256 < 256 ^ n := by rw [Nat.pow_succ] at hz; omega
    obtain ⟨h1, h2, h3⟩ := stC_sum n (z / 256) b3 hz'
    have b4 : z / 256 % 16 ≤ 4 := bd_head b3 (fun e => by
      have h0 : n = 0 := by omega
      subst h0
      simpa using hz')
    have e1 : stC (n + 1) z % 256 = z % 16 + z / 16 % 16 := by rw [stC_succ n z b1 b2 b4]; omega
    have e2 : stC (n + 1) z / 256 = stC n (z / 256) := by rw [stC_succ n z b1 b2 b4]; omega
    refine ⟨?_, ?_, ?_⟩
    · rw [sF, e1, e2, h1, show n + 1 + (n + 1) = (n + n + 1) + 1 by omega, sF, sF, show z / 16 / 16 = z / 256 by omega]
      omega
    · rw [bd, e1, e2]; exact ⟨by omega, h2⟩
    · rw [Nat.pow_succ]
      have := stC_succ n z b1 b2 b4
      omega

/-- The last steps: the sum of eight bytes, none above 8. -/
theorem last_sum8 (c0 c1 c2 c3 c4 c5 c6 c7 w a b : Nat) (h0 : c0 ≤ 8) (h1 : c1 ≤ 8) (h2 : c2 ≤ 8) (h3 : c3 ≤ 8) (h4 : c4 ≤ 8) (h5 : c5 ≤ 8) (h6 : c6 ≤ 8) (h7 : c7 ≤ 8)
    (hw : w = c0 + 256 * (c1 + 256 * (c2 + 256 * (c3 + 256 * (c4 + 256 * (c5 + 256 * (c6 + 256 * c7))))))) (ha : a = w + w / 256) (hb : b = a + a / 65536) :
    (b + b / 4294967296) % 128 = c0 + c1 + c2 + c3 + c4 + c5 + c6 + c7 ∧ a < 18446744073709551616 ∧ b < 18446744073709551616 ∧ b + b / 4294967296 < 9223372036854775808 := by
  generalize k1 : c1 + 256 * (c2 + 256 * (c3 + 256 * (c4 + 256 * (c5 + 256 * (c6 + 256 * c7))))) = r1 at *
  have e1 : w / 256 = r1 := by omega
  rw [e1] at ha
  obtain ⟨s1, hs1⟩ : ∃ s, s = (c2 + c3) + 256 * ((c3 + c4) + 256 * ((c4 + c5) + 256 * ((c5 + c6) + 256 * ((c6 + c7) + 256 * c7)))) := ⟨_, rfl⟩
  have e2 : a = (c0 + c1) + 256 * (c1 + c2) + 65536 * s1 := by rw [ha, hw, ← k1, hs1]; omega
  have e2' : a / 65536 = s1 := by clear hs1 ha hw k1 hb; omega
  rw [e2'] at hb
  obtain ⟨t1, ht1⟩ : ∃ s, s = (c4 + c5 + c6 + c7) + 256 * ((c5 + c6 + c7) + 256 * ((c6 + c7) + 256 * c7)) := ⟨_, rfl⟩
  have e3 : b = (c0 + c1 + c2 + c3) + 256 * (c1 + c2 + c3 + c4) + 65536 * (c2 + c3 + c4 + c5) + 16777216 * (c3 + c4 + c5 + c6) + 4294967296 * t1 := by rw [hb, e2, hs1, ht1]; omega
  have e3' : b / 4294967296 = t1 := by clear hs1 ha hw k1 hb e2 e1 e2' ht1; omega
  rw [e3']
  clear e1 e2' e3'
  have ht : t1 < 1000000000 := by rw [ht1]; omega
  have hs : s1 < 18446744073709 := by rw [hs1]; omega
  refine ⟨?_, ?_, ?_, ?_⟩
  · have q : t1 % 128 = (c4 + c5 + c6 + c7) % 128 := by rw [ht1]; omega
    clear ht1 hs1 hb ha hw k1 e2 hs ht
    omega
  · clear ht1 hs1 hb ha hw k1 e3; omega
  · clear ht1 hs1 hb ha hw k1 e2; omega
  · clear ht1 hs1 hb ha hw k1 e2; omega

theorem digit {w v m : Nat} (f : w / 256 = v) (h : w % 256 ≤ m) : ∃ c, c ≤ m ∧ w % 256 = c ∧ w = c + 256 * v := ⟨w % 256, h, rfl, by omega⟩
theorem less_digit {w v K : Nat} (f : w / 256 = v) (h : w < 256 * K) : v < K := by rw [← f]; exact Nat.div_lt_of_lt_mul h

theorem last_sum (w : Nat) (h : bd 256 8 8 w) (hw : w < 256 ^ 8) :
    ∀ a b, a = w + w / 256 → b = a + a / 65536 → (b + b / 4294967296) % 128 = sF 256 8 w ∧ a < 18446744073709551616 ∧ b < 18446744073709551616 ∧ b + b / 4294967296 < 9223372036854775808 := by
  intro a b ha hb
  simp only [bd, and_true] at h
  obtain ⟨h0, h1, h2, h3, h4, h5, h6, h7⟩ := h
  simp only [sF]
  generalize f1 : w / 256 = w1 at *
  generalize f2 : w1 / 256 = w2 at *
  generalize f3 : w2 / 256 = w3 at *
  generalize f4 : w3 / 256 = w4 at *
  generalize f5 : w4 / 256 = w5 at *
  generalize f6 : w5 / 256 = w6 at *
  generalize f7 : w6 / 256 = w7 at *
  have l7 : w7 < 256 := less_digit f7 (less_digit f6 (less_digit f5 (less_digit f4 (less_digit f3 (less_digit f2 (less_digit f1 (by simpa using hw)))))))
  have e7 : w7 % 256 = w7 := Nat.mod_eq_of_lt l7
  rw [e7] at h7 ⊢
  obtain ⟨c0, b0, m0, g0⟩ := digit f1 h0
  obtain ⟨c1, b1, m1, g1⟩ := digit f2 h1
  obtain ⟨c2, b2, m2, g2⟩ := digit f3 h2
  obtain ⟨c3, b3, m3, g3⟩ := digit f4 h3
  obtain ⟨c4, b4, m4, g4⟩ := digit f5 h4
  obtain ⟨c5, b5, m5, g5⟩ := digit f6 h5
  obtain ⟨c6, b6, m6, g6⟩ := digit f7 h6
  rw [m0, m1, m2, m3, m4, m5, m6]
  have hw' : w = c0 + 256 * (c1 + 256 * (c2 + 256 * (c3 + 256 * (c4 + 256 * (c5 + 256 * (c6 + 256 * w7)))))) := by
    rw [← g6, ← g5, ← g4, ← g3, ← g2, ← g1, ← g0]
  have := last_sum8 c0 c1 c2 c3 c4 c5 c6 w7 w a b b0 b1 b2 b3 b4 b5 b6 h7 hw' (by rw [ha, f1]) hb
  refine ⟨?_, this.2⟩
  rw [this.1]
  simp only [Nat.add_assoc, Nat.add_zero]

theorem mask0 : mask 4 1 32 = 6148914691236517205 := by decide
theorem mask1 : mask 16 3 16 = 3689348814741910323 := by decide
theorem mask2 : mask 256 15 8 = 1085102592571150095 := by decide

theorem sF_last (n y : Nat) : sF 2 (n + 1) y = sF 2 n y + (y.testBit n).toNat := by
  induction n generalizing y with
  | zero => simp only [sF, Nat.testBit_zero]; rcases Nat.mod_two_eq_zero_or_one y with h | h <;> simp [h]
  | succ n ih =>
    rw [sF, ih, sF, Nat.testBit_succ]
    omega

/-- A word's bits are the numbers that it brings. -/
theorem upTo_word (N k : Nat) : ∀ m, m ≤ 64 → (upTo N (64 * k + m)).length = (upTo N (64 * k)).length + sF 2 m (wd N k)
  | 0, _ => rfl
  | m + 1, h => by
    rw [← Nat.add_assoc, upTo_succ, sF_last, testBit_wd]
    have hm : m < 64 := h
    have ih := upTo_word N k m (by omega)
    by_cases e : N.testBit (64 * k + m)
    · rw [if_pos e]; simp [e, hm, ih]; omega
    · rw [if_neg e]; simp [e, ih]

/-- The steps by names that no tactic looks behind. -/
def vA (x : Nat) : Nat := stA 32 x
def vB (x : Nat) : Nat := stB 16 (vA x)
def vC (x : Nat) : Nat := stC 8 (vB x)
def vD (x : Nat) : Nat := vC x + vC x / 256
def vE (x : Nat) : Nat := vD x + vD x / 65536
def vF (x : Nat) : Nat := vE x + vE x / 4294967296

theorem stA_lt : ∀ n x, stA n x < 4 ^ n
  | 0, x => by simp [stA, mask]
  | n + 1, x => by rw [stA_succ, Nat.pow_succ]; have := stA_lt n (x / 4); omega
theorem stB_lt : ∀ n y, stB n y < 16 ^ n
  | 0, y => by simp [stB, mask]
  | n + 1, y => by rw [stB_succ, Nat.pow_succ]; have := stB_lt n (y / 16); omega
theorem vA_lt (x : Nat) : vA x < 18446744073709551616 := stA_lt 32 x
theorem vB_lt (x : Nat) : vB x < 18446744073709551616 := stB_lt 16 (vA x)

theorem pop_all (x : Nat) : vC x < 18446744073709551616 ∧ vD x < 18446744073709551616 ∧ vE x < 18446744073709551616 ∧ vF x < 9223372036854775808 ∧ vF x % 128 = sF 2 64 x := by
  have a := stA_sum 32 x
  have b := stB_sum 16 (vA x) a.2
  have c := stC_sum 8 (vB x) b.2 (stB_lt 16 (vA x))
  have d := last_sum (vC x) c.2.1 c.2.2 (vD x) (vE x) rfl rfl
  refine ⟨c.2.2, d.2.1, d.2.2.1, d.2.2.2, ?_⟩
  have e : vF x % 128 = sF 256 8 (vC x) := d.1
  rw [e]
  exact c.1.trans (b.1.trans a.1)

theorem u64_div (a k : Nat) : ((a : Int) / (k : Int)) = ((a / k : Nat) : Int) := (Int.natCast_ediv a k).symm
theorem and_u64' (a m : Nat) (ha : a < 18446744073709551616) (hm : m < 18446744073709551616) : bits .and .u64 (a : Int) (m : Int) = ((a &&& m : Nat) : Int) := bits_and_u64_nat a m ha hm
theorem wrap_nat (a : Nat) (h : a < 18446744073709551616) : IntKind.u64.wrap (a : Int) = (a : Int) := wrap_u64_in _ (by omega) (by omega)

theorem stepA {x : Nat} (hx : x < 18446744073709551616) : IntKind.u64.wrap (bits .and .u64 ((x : Int) / 2) 6148914691236517205 + bits .and .u64 (x : Int) 6148914691236517205) = ((vA x : Nat) : Int) := by
  have h1 := and_u64' (x / 2) 6148914691236517205 (by omega) (by decide)
  have h2 := and_u64' x 6148914691236517205 hx (by decide)
  rw [← u64_div] at h1
  rw [show ((6148914691236517205 : Nat) : Int) = 6148914691236517205 from rfl] at h1 h2
  rw [show ((2 : Nat) : Int) = 2 from rfl] at h1
  rw [h1, h2, ← Int.natCast_add]
  have e : (x / 2 &&& 6148914691236517205) + (x &&& 6148914691236517205) = vA x := by rw [← mask0]; rfl
  rw [e]; exact wrap_nat _ (vA_lt x)
theorem stepB (x : Nat) : IntKind.u64.wrap (bits .and .u64 (((vA x : Nat) : Int) / 4) 3689348814741910323 + bits .and .u64 ((vA x : Nat) : Int) 3689348814741910323) = ((vB x : Nat) : Int) := by
  have hx := vA_lt x
  have h1 := and_u64' (vA x / 4) 3689348814741910323 (by omega) (by decide)
  have h2 := and_u64' (vA x) 3689348814741910323 hx (by decide)
  rw [← u64_div] at h1
  rw [show ((3689348814741910323 : Nat) : Int) = 3689348814741910323 from rfl] at h1 h2
  rw [show ((4 : Nat) : Int) = 4 from rfl] at h1
  rw [h1, h2, ← Int.natCast_add]
  have e : (vA x / 4 &&& 3689348814741910323) + (vA x &&& 3689348814741910323) = vB x := by rw [← mask1]; rfl
  rw [e]; exact wrap_nat _ (vB_lt x)
theorem vB_small (x : Nat) : vB x / 16 + vB x < 18446744073709551616 := by
  have a := stA_sum 32 x
  have b := stB_sum 16 (vA x) a.2
  have h : ∀ n z, bd 16 4 n z → z < 16 ^ n → 15 * z + 4 ≤ 4 * 16 ^ n := by
    intro n
    induction n with
    | zero => intro z _ hz; simp at hz; subst hz; decide
    | succ n ih =>
      intro z hz hlt
      rw [Nat.pow_succ] at *
      have h1 := ih (z / 16) hz.2 (by omega)
      have h2 := hz.1
      omega
  have := h 16 (vB x) b.2 (stB_lt 16 (vA x))
  simp only [Nat.reducePow] at this
  omega
theorem stepC (x : Nat) : bits .and .u64 (IntKind.u64.wrap (((vB x : Nat) : Int) / 16 + ((vB x : Nat) : Int))) 1085102592571150095 = ((vC x : Nat) : Int) := by
  have hs := vB_small x
  have e0 : ((vB x : Nat) : Int) / 16 + ((vB x : Nat) : Int) = ((vB x / 16 + vB x : Nat) : Int) := by omega
  rw [e0, wrap_nat _ hs]
  have h1 := and_u64' (vB x / 16 + vB x) 1085102592571150095 hs (by decide)
  rw [show ((1085102592571150095 : Nat) : Int) = 1085102592571150095 from rfl] at h1
  rw [h1]
  have e : (vB x / 16 + vB x) &&& 1085102592571150095 = vC x := by rw [← mask2]; rfl
  rw [e]
theorem stepD (x : Nat) : IntKind.u64.wrap (((vC x : Nat) : Int) + ((vC x : Nat) : Int) / 256) = ((vD x : Nat) : Int) := by
  have e0 : ((vC x : Nat) : Int) + ((vC x : Nat) : Int) / 256 = ((vD x : Nat) : Int) := by unfold vD; omega
  rw [e0]; exact wrap_nat _ (pop_all x).2.1
theorem stepE (x : Nat) : IntKind.u64.wrap (((vD x : Nat) : Int) + ((vD x : Nat) : Int) / 65536) = ((vE x : Nat) : Int) := by
  have e0 : ((vD x : Nat) : Int) + ((vD x : Nat) : Int) / 65536 = ((vE x : Nat) : Int) := by unfold vE; omega
  rw [e0]; exact wrap_nat _ (pop_all x).2.2.1
theorem stepF (x : Nat) : IntKind.u64.wrap (((vE x : Nat) : Int) + ((vE x : Nat) : Int) / 4294967296) = ((vF x : Nat) : Int) := by
  have e0 : ((vE x : Nat) : Int) + ((vE x : Nat) : Int) / 4294967296 = ((vF x : Nat) : Int) := by unfold vF; omega
  rw [e0]; exact wrap_nat _ (by have := (pop_all x).2.2.2.1; omega)
theorem stepG (x : Nat) : bits .and .i64 ((vF x : Nat) : Int) 127 = ((sF 2 64 x : Nat) : Int) := by
  have h := (pop_all x).2.2.2
  have h2 := bits_mask .i64 63 (by decide) (fun n a b => by rw [IntKind.wrap_i64]; omega) 7 (by decide) ((vF x : Nat) : Int) (by omega) (by omega)
  rw [show (2 : Int) ^ 7 - 1 = 127 from rfl] at h2
  rw [h2, ← h.2]
  rw [Int.natCast_emod]; rfl

end Go.Proofs.YtjichaeegheacaaDoor
