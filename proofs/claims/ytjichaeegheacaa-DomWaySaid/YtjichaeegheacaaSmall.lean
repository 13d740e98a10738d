
/-
  Small facts of lists of ints, for the seats without law 15.
-/
import Derived.Test.YtjichaeegheacaaApp
import Derived.Test.YtjichaeegheacaaOf
import Derived.Test.YtjichaeegheacaaBitsB
import Derived.Test.YtjichaeegheacaaQuiet
namespace Go.Proofs.Ytjichaeegheacaa
open Go Go.RowKit

theorem contains_take_succ {xs : List Int} {k : Nat} (h : k < xs.length) (n : Int) (hn : (gI xs k == n) = false) (hc : (xs.take k).contains n = false) : (xs.take (k + 1)).contains n = false := by
  rw [List.take_add_one, gI_get h]
  rw [List.contains_eq_any_beq] at hc ⊢
  rw [List.any_append, hc]
  simp only [Option.toList_some, List.any_cons, List.any_nil, Bool.or_false, Bool.false_or]
  rw [BEq.comm]; exact hn

/-- n is not among the first k. -/
def NotYet (xs : List Int) (k : Nat) (n : Int) : Prop := (xs.take k).contains n = false

/-- A slice that a literal lays. -/
theorem RI_lit {w : World} {g : Nat} {t : TypeId} {xs : List Int} (h : w.heap[g]? = some (.cells (xs.map (Value.int .i64)).toArray t (0, 0))) (hx : ∀ x ∈ xs, I64 x) (hl : xs.length ≤ 140737488355328) : RI w (some ⟨g, 0, none⟩) xs := by
  refine ⟨hl, fun i hi => hx _ (gI_mem hi), fun _ => ⟨g, 0, rfl, blk_lt h, fun i hi => ?_⟩⟩
  rw [cell_of_row w g _ _ t (0, 0) h, Nat.zero_add]
  simp [gI_get hi]

end Go.Proofs.Ytjichaeegheacaa
