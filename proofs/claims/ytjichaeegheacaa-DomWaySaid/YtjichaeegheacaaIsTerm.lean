
/-
  Package ir: IsTerm.
-/
import Derived.Test.YtjichaeegheacaaTerm
import Derived.Test.YtjichaeegheacaaSmall
namespace Go.Proofs.Ytjichaeegheacaa
open Go Go.RowKit

/-- An end of a block. -/
structure Tm where
  k : Int
  a : Int
  t0 : Int
  t1 : Int
def Tm.val (t : Tm) : Array Value := #[.int .i64 t.k, .int .i64 t.a, .int .i64 t.t0, .int .i64 t.t1]
def Tm.ok (t : Tm) : Prop := I64 t.k ∧ I64 t.a ∧ I64 t.t0 ∧ I64 t.t1
def varB (x : Int) : Bool := decide (1 ≤ x) && decide (x ≤ 200)
def fitB (b : Bool) (x : Int) : Bool := if b then decide (1 ≤ x) && decide (x ≤ 200) else decide (x = 0)
def noneB (xs : List Int) : Bool := !xs.any (· != 0)
/-- Is it one? -/
def isTermB (t : Tm) : Bool :=
  if t.k = 1 then noneB [t.a, t.t1] else if t.k = 2 then varB t.a else if t.k = 3 then fitB (t.a != 0) t.a && noneB [t.t0, t.t1] else decide (t.k = 4) && noneB [t.a, t.t0, t.t1]

theorem none_lit (xs : List Int) (g : Nat) (ty : TypeId) (c n : Nat) (hn : n = xs.length) (w : World) (h : w.heap[g]? = some (.cells (xs.map (Value.int .i64)).toArray ty (0, 0))) (hx : ∀ x ∈ xs, I64 x) (hl : xs.length ≤ 3) :
    Calls Try.prog 38 #[.slice (some ⟨g, 0, none⟩) n c] w (fun e w' => e = .returned (.bool (noneB xs)) ∧ w' = w) := by
  subst hn
  exact none_any _ c xs w (RI_lit h hx (by omega))

set_option maxHeartbeats 1000000 in
theorem IsTerm_any (t : Tm) (w : World) (ht : t.ok) :
    Calls Try.prog 30 #[.agg t.val] w (Fresh w (.bool (isTermB t))) := by
  obtain ⟨k, a, t0, t1⟩ := t
  obtain ⟨hk, ha, h0, h1⟩ := ht
  simp only at hk ha h0 h1
  unfold Tm.val
  simp only
  have hb0 : Below w.heap.size w (w.alloc (.cells #[.int .i64 k, .int .i64 a, .int .i64 t0, .int .i64 t1] 42)) := (Below.refl _ _).alloc (Nat.le_refl _) _
  by_cases k1 : k = 1
  · subst k1
    have e : isTermB ⟨1, a, t0, t1⟩ = noneB [a, t1] := rfl
    rw [e]
    go_enter Try.func30, Try.ntmps30
    go_wp2_with fail
    refine (none_lit [a, t1] (w.heap.size + 1) 3 _ _ rfl _ ?_ ?_ (by simp)).mono ?_
    · have := blk_new (w.alloc (.cells #[.int .i64 1, .int .i64 a, .int .i64 t0, .int .i64 t1] 42)) (.cells #[.int .i64 a, .int .i64 t1] 3)
      rw [World.size_alloc] at this
      exact this
    · intro x hx; simp at hx; rcases hx with rfl | rfl <;> assumption
    rintro e w' ⟨rfl, rfl⟩
    go_wp2
    go_ret
    exact ⟨rfl, hb0.alloc hb0.size _⟩
  · have d1 : decide (k = 1) = false := decide_eq_false k1
    by_cases k2 : k = 2
    · subst k2
      have e : isTermB ⟨2, a, t0, t1⟩ = varB a := rfl
      rw [e]
      have q := variable_any a
      rw [show (decide (1 ≤ a) && decide (a ≤ 200)) = varB a from rfl] at q
      go_enter Try.func30, Try.ntmps30
      go_wp2_with fail
      refine (q _ ha).mono ?_
      rintro e w' ⟨rfl, rfl⟩
      go_wp2
      go_ret
      exact ⟨rfl, hb0⟩
    · have d2 : decide (k = 2) = false := decide_eq_false k2
      by_cases k3 : k = 3
      · subst k3
        have e : isTermB ⟨3, a, t0, t1⟩ = (fitB (a != 0) a && noneB [t0, t1]) := rfl
        rw [e]
        have q := fits_any (a != 0) a
        rw [show (if (a != 0) = true then decide (1 ≤ a) && decide (a ≤ 200) else decide (a = 0)) = fitB (a != 0) a from rfl] at q
        generalize fitB (a != 0) a = f at *
        have hrd : RI (w.alloc (.cells #[.int .i64 3, .int .i64 a, .int .i64 t0, .int .i64 t1] 42)) (some ⟨w.heap.size, 2, none⟩) [t0, t1] := by
          have hb := blk_new w (.cells #[.int .i64 3, .int .i64 a, .int .i64 t0, .int .i64 t1] 42)
          refine ⟨by simp, fun i hi => ?_, fun _ => ⟨w.heap.size, 2, rfl, blk_lt hb, fun i hi => ?_⟩⟩
          · match i, hi with
            | 0, _ => exact h0
            | 1, _ => exact h1
          · rw [cell_of_row _ _ _ _ _ (0, 0) hb]
            match i, hi with
            | 0, _ => rfl
            | 1, _ => rfl
        have n2 := none_any (some ⟨w.heap.size, 2, none⟩) 2 [t0, t1] _ hrd
        rw [show (!List.any [t0, t1] fun x => x != 0) = noneB [t0, t1] from rfl] at n2
        generalize noneB [t0, t1] = nb at *
        cases f
        · rw [Bool.false_and]
          go_enter Try.func30, Try.ntmps30
          go_wp2_with fail
          refine (q _ ha).mono ?_
          rintro e w' ⟨rfl, rfl⟩
          go_wp2
          go_ret
          exact ⟨rfl, hb0⟩
        · rw [Bool.true_and]
          go_enter Try.func30, Try.ntmps30
          go_wp2_with fail
          refine (q _ ha).mono ?_
          rintro e w' ⟨rfl, rfl⟩
          go_wp2_with fail
          refine n2.mono ?_
          rintro e w' ⟨rfl, rfl⟩
          go_wp2
          go_ret
          exact ⟨rfl, hb0⟩
      · have d3 : decide (k = 3) = false := decide_eq_false k3
        by_cases k4 : k = 4
        · subst k4
          have e : isTermB ⟨4, a, t0, t1⟩ = noneB [a, t0, t1] := rfl
          rw [e]
          go_enter Try.func30, Try.ntmps30
          go_wp2_with fail
          refine (none_lit [a, t0, t1] (w.heap.size + 1) 3 _ _ rfl _ ?_ ?_ (by simp)).mono ?_
          · have := blk_new (w.alloc (.cells #[.int .i64 4, .int .i64 a, .int .i64 t0, .int .i64 t1] 42)) (.cells #[.int .i64 a, .int .i64 t0, .int .i64 t1] 3)
            rw [World.size_alloc] at this
            exact this
          · intro x hx; simp at hx; rcases hx with rfl | rfl | rfl <;> assumption
          rintro e w' ⟨rfl, rfl⟩
          go_wp2
          go_ret
          exact ⟨rfl, hb0.alloc hb0.size _⟩
        · have d4 : decide (k = 4) = false := decide_eq_false k4
          have e : isTermB ⟨k, a, t0, t1⟩ = false := by simp [isTermB, k1, k2, k3, k4]
          rw [e]
          go_enter Try.func30, Try.ntmps30
          go_wp2
          go_ret
          exact ⟨rfl, hb0⟩

end Go.Proofs.Ytjichaeegheacaa
