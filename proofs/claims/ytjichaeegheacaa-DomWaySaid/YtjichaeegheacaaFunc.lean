
/-
  A function that came in: its blocks, where they lie; its edges.
-/
import Derived.Test.YtjichaeegheacaaTo
namespace Go.Proofs.Ytjichaeegheacaa
open Go Go.RowKit

/-- A block: its instructions' slice, as it is; its end. -/
structure Blk where
  ins : Value
  t : Tm
instance : Inhabited Blk := ⟨⟨undef, ⟨0, 0, 0, 0⟩⟩⟩
def Blk.cell (b : Blk) : Nat → Value
  | 0 => b.ins
  | 1 => .int .i64 b.t.k
  | 2 => .int .i64 b.t.a
  | 3 => .int .i64 b.t.t0
  | _ => .int .i64 b.t.t1
def Blk.val (b : Blk) : Array Value := #[b.ins, .int .i64 b.t.k, .int .i64 b.t.a, .int .i64 b.t.t0, .int .i64 b.t.t1]
def gB (bs : List Blk) (i : Nat) : Blk := bs[i]?.getD default

theorem gB_eq {bs : List Blk} {i : Nat} (h : i < bs.length) : gB bs i = bs[i] := by simp [gB, h]

theorem int_one (k : IntKind) (n : Int) : (Value.int k n).oneCell' = true := rfl
theorem Blk.val_one {b : Blk} (h : b.ins.oneCell' = true) : b.val.all (·.oneCell') = true := by
  simp [Blk.val, h, int_one]

/-- A slice of blocks. -/
structure RF (w : World) (A : Option Addr) (bs : List Blk) : Prop where
  len : bs.length ≤ 35184372088832
  ok : ∀ i, i < bs.length → (gB bs i).t.ok
  one : ∀ i, i < bs.length → (gB bs i).ins.oneCell' = true
  rd : Rd w A (5 * bs.length) (fun k => (gB bs (k / 5)).cell (k % 5))
theorem RF.below {w w' : World} {A : Option Addr} {bs : List Blk} (h : RF w A bs) (hb : Below w.heap.size w w') : RF w' A bs := ⟨h.len, h.ok, h.one, h.rd.below hb⟩

/-- Block k, where it lies. -/
theorem RF.at_ {w : World} {A : Option Addr} {bs : List Blk} (h : RF w A bs) {k : Nat} (hk : k < bs.length) :
    ∃ b off, A = some ⟨b, off, none⟩ ∧ b < w.heap.size ∧ (gB bs k).t.ok ∧ ∀ j, j < 5 → w.cell? ⟨b, off + 5 * k + j, none⟩ = some ((gB bs k).cell j) := by
  obtain ⟨b, off, e, hlt, hc⟩ := h.rd (by omega)
  refine ⟨b, off, e, hlt, h.ok k hk, fun j hj => ?_⟩
  have := hc (5 * k + j) (by omega)
  rw [show off + (5 * k + j) = off + 5 * k + j by omega] at this
  rw [this]
  show some ((gB bs ((5 * k + j) / 5)).cell ((5 * k + j) % 5)) = _
  rw [show (5 * k + j) / 5 = k by omega, show (5 * k + j) % 5 = j by omega]

/-- The end of block k, where it lies. -/
theorem RF.term {w : World} {A : Option Addr} {bs : List Blk} (h : RF w A bs) {k : Nat} (hk : k < bs.length) :
    ∃ b off, A = some ⟨b, off, none⟩ ∧ b < w.heap.size ∧ (gB bs k).t.ok ∧ ∀ W, Below w.heap.size w W → ∀ j v, (gB bs k).t.val.toList[j]? = some v → W.cell? ⟨b, off + k * 5 + 1 + j, none⟩ = some v := by
  obtain ⟨b, off, e, hlt, hok, hc⟩ := h.at_ hk
  refine ⟨b, off, e, hlt, hok, fun W hW j v hv => ?_⟩
  rw [hW.cell (p := ⟨b, off + k * 5 + 1 + j, none⟩) hlt]
  have hj : j < 4 := (List.getElem?_eq_some_iff.1 hv).1
  have := hc (j + 1) (by omega)
  rw [show off + k * 5 + 1 + j = off + 5 * k + (j + 1) by omega, this, ← hv]
  match j, hj with
  | 0, _ => rfl
  | 1, _ => rfl
  | 2, _ => rfl
  | 3, _ => rfl

/-- An edge: from one block, its arm, to one. -/
structure Ed where
  f : Int
  a : Int
  t : Int
  deriving DecidableEq
def Ed.val (e : Ed) : Array Value := #[.int .i64 e.f, .int .i64 e.a, .int .i64 e.t]
/-- The edges of one block: of its arms ahead of m. -/
def armE (b : Nat) (l : List Int) (m : Nat) : List Ed := (List.range m).map fun i : Nat => ⟨b, i, gI l i⟩
/-- All edges of the blocks ahead of k. -/
def edgesTo (bs : List Blk) : Nat → List Ed
  | 0 => []
  | k + 1 => edgesTo bs k ++ armE k (toL (gB bs k).t) (toL (gB bs k).t).length
def edgesOf (bs : List Blk) : List Ed := edgesTo bs bs.length
theorem armE_succ (b : Nat) (l : List Int) (m : Nat) : armE b l (m + 1) = armE b l m ++ [⟨b, m, gI l m⟩] := by simp [armE, List.range_succ]
theorem toL_len (t : Tm) : (toL t).length ≤ 2 := by
  unfold toL
  split <;> (try split) <;> (try split) <;> simp

theorem armE_len (b : Nat) (l : List Int) (m : Nat) : (armE b l m).length = m := by simp [armE]
theorem edgesTo_len (bs : List Blk) : ∀ k, (edgesTo bs k).length ≤ 2 * k
  | 0 => Nat.le_refl _
  | k + 1 => by
    have := edgesTo_len bs k
    have h2 := toL_len (gB bs k).t
    rw [edgesTo, List.length_append, armE_len]; omega
theorem armE_pre (b : Nat) (l : List Int) {m n : Nat} (h : m ≤ n) : armE b l m <+: armE b l n := by
  obtain ⟨d, rfl⟩ : ∃ d, n = m + d := ⟨n - m, by omega⟩
  clear h
  induction d with
  | zero => exact List.prefix_refl _
  | succ d ih => rw [show m + (d + 1) = (m + d) + 1 by omega, armE_succ]; exact ih.trans (List.prefix_append _ _)
theorem edgesTo_pre (bs : List Blk) {m n : Nat} (h : m ≤ n) : edgesTo bs m <+: edgesTo bs n := by
  obtain ⟨d, rfl⟩ : ∃ d, n = m + d := ⟨n - m, by omega⟩
  clear h
  induction d with
  | zero => exact List.prefix_refl _
  | succ d ih => rw [show m + (d + 1) = (m + d) + 1 by omega, edgesTo]; exact ih.trans (List.prefix_append _ _)
theorem edges_pre (bs : List Blk) {k m : Nat} (hk : k < bs.length) (hm : m ≤ (toL (gB bs k).t).length) : edgesTo bs k ++ armE k (toL (gB bs k).t) m <+: edgesOf bs := by
  refine List.IsPrefix.trans ?_ (edgesTo_pre bs (show k + 1 ≤ bs.length from hk))
  rw [edgesTo]
  exact (List.prefix_append_right_inj _).2 (armE_pre _ _ hm)

end Go.Proofs.Ytjichaeegheacaa
