
/-
  The worlds in which one block of one's own may have turned, and blocks may have been laid; an append that says whose block it wrote; rows of rows, each of its own.
-/
import Derived.Test.YtjichaeegheacaaApp
import Derived.Test.YtjichaeegheacaaTree
import Derived.Test.YtjichaeegheacaaTo
namespace Go.Proofs.Ytjichaeegheacaa
open Go Go.RowKit

structure Regrown3 where
  d : Nat
  os : Array Obj
  o : Obj
instance : Inhabited Regrown3 := ⟨⟨0, #[], .cells #[] 0⟩⟩
theorem regrown3_of {w W : World} {g : Nat} (hgr : w.grownBy W (some g)) : ∃ p : Regrown3, W = Sort.grow (redrawn (w.putObj g p.o) p.d) p.os := by
  have size : ∀ o, (w.putObj g o).heap.size = w.heap.size := fun o => by simp [World.putObj]
  by_cases hlt : g < w.heap.size
  · have hW : g < W.heap.size := Nat.lt_of_lt_of_le hlt hgr.size
    have hb : Below (w.putObj g W.heap[g]).heap.size (w.putObj g W.heap[g]) W := by
      refine ⟨hgr.os, hgr.tape, hgr.output, by rw [size]; exact hgr.size, fun k hk => ?_⟩
      rw [size] at hk
      by_cases e : k = g
      · subst e; rw [World.putObj_heap_same hlt]; exact Array.getElem?_eq_getElem hW
      · rw [World.putObj_heap_other e]
        exact hgr.block k hk (fun q => e (Option.some.inj q))
    obtain ⟨p, hp⟩ := regrown_of_below hb
    exact ⟨⟨p.d, p.os, W.heap[g]⟩, hp⟩
  · have hb : Below (w.putObj g (.cells #[] 0)).heap.size (w.putObj g (.cells #[] 0)) W := by
      refine ⟨hgr.os, hgr.tape, hgr.output, by rw [size]; exact hgr.size, fun k hk => ?_⟩
      rw [size] at hk
      rw [World.putObj_heap_other (by omega)]
      exact hgr.block k hk (fun q => by have := Option.some.inj q; omega)
    obtain ⟨p, hp⟩ := regrown_of_below hb
    exact ⟨⟨p.d, p.os, .cells #[] 0⟩, hp⟩
theorem regrown3_blk {w W : World} {g : Nat} (h : ∃ p : Regrown3, W = Sort.grow (redrawn (w.putObj g p.o) p.d) p.os) {k : Nat} (hk : k < w.heap.size) (hne : k ≠ g) : W.heap[k]? = w.heap[k]? := by
  obtain ⟨p, rfl⟩ := h
  rw [(below_regrown (w.putObj g p.o) p.d p.os).block k (by simpa [World.putObj] using hk)]
  exact World.putObj_heap_other hne
theorem regrown3_cell {w W : World} {g : Nat} (h : ∃ p : Regrown3, W = Sort.grow (redrawn (w.putObj g p.o) p.d) p.os) {k i : Nat} {v : Value} (hk : k < w.heap.size) (hne : k ≠ g) (hc : w.cell? ⟨k, i, none⟩ = some v) : W.cell? ⟨k, i, none⟩ = some v := by
  rw [← hc]
  unfold World.cell?
  rw [regrown3_blk h hk hne]

/-- The block of a row, or one that is not there. -/
def ownB (W : World) (v : Value) : Nat := match v.ownBlock with | some g => g | none => W.heap.size
theorem own_blk {W : World} {B : Nat} {v : Value} {n : Nat} {xs : List Value} (h : W.ownsRow B 3 1 v n xs) : (v.ownBlock = none ∨ ∃ g c, v.ownBlock = some g ∧ B ≤ g ∧ W.heap[g]? = some (.cells c 3 (0, 0))) := by
  rcases h.2 with ⟨rfl, _⟩ | ⟨g, cap, cur, rfl, hb, hg, _⟩
  · exact .inl rfl
  · exact .inr ⟨g, cur, rfl, hb, hg⟩
theorem own_far {W W' : World} {B : Nat} {v : Value} {n : Nat} {xs : List Value} (h : W.ownsRow B 3 1 v n xs) (hk : ∀ g o, v.ownBlock = some g → W.heap[g]? = some o → W'.heap[g]? = some o) : W'.ownsRow B 3 1 v n xs := by
  refine ⟨h.1, ?_⟩
  rcases h.2 with q | ⟨g, cap, cur, rfl, hb, hg, q⟩
  · exact .inl q
  · exact .inr ⟨g, cap, cur, rfl, hb, hk g _ rfl hg, q⟩

theorem app_one {w : World} {B : Nat} {ty : TypeId} {v : Value} {xs : List Int} {g c : Nat} {y : Int} (hown : w.ownsRow B 3 1 v xs.length (xs.map (Value.int .i64))) (hr : w.heap[g]? = some (.cells #[.int .i64 y] 3 (0, 0)))
    (hB : B ≤ w.heap.size) (hl : xs.length ≤ 100000) :
    ∃ v' w', (Builtin.append_ #[22, 22] ty #[v, .slice (some ⟨g, 0, none⟩) 1 c]).run Try.prog w = .ok v' w' ∧ w'.ownsRow B 3 1 v' (xs ++ [y]).length ((xs ++ [y]).map (Value.int .i64)) ∧ w.grownBy w' v.ownBlock ∧
      (v'.ownBlock = v.ownBlock ∨ v'.ownBlock = some w.heap.size) := by
  obtain ⟨i0, hi, hz0, hz1, hz2⟩ := info_parts infoInt
  obtain ⟨v', w', h1, h2, h3, h4, h5⟩ := run_append_own_at (P := Try.prog) w B 22 ty 3 i0 (.int .i64 0) 1 8 Try.underlying22 hi hz0 hz1 hz2 rfl (by decide) v xs.length _ hown ⟨g, 0, none⟩ 1 c [.int .i64 y] (by simp)
    (fun j u hu => by
      match j, hu with
      | 0, hu => cases hu; exact (cell_of_row w g (0 + 0) _ _ _ hr).trans rfl) (fun u hu => by simp at hu; subst hu; rfl) (by unfold maxLen; omega) (by omega) hB
  exact ⟨v', w', h1, by rw [List.length_append, List.map_append]; exact h2, h3, h5⟩

theorem wpList_app1 {ops : Array Oper} {rest : List Oper} {o : Oper} {a : Act} {w : World} {Q : Exit → Act → World → Prop} (hgd : o.guard = none) (s x : Operand)
    (ho : o.op = .call { callee := .builtin .append, args := #[s, x], argTypes := #[22, 22] }) (B : Nat) (v : Value) (hs : a.eval s = v) (xs : List Int) (hown : w.ownsRow B 3 1 v xs.length (xs.map (Value.int .i64)))
    (g c : Nat) (y : Int) (hx : a.eval x = .slice (some ⟨g, 0, none⟩) 1 c) (hr : w.heap[g]? = some (.cells #[.int .i64 y] 3 (0, 0))) (hB : B ≤ w.heap.size) (hl : xs.length ≤ 100000)
    (h : ∀ v' w', w'.ownsRow B 3 1 v' (xs ++ [y]).length ((xs ++ [y]).map (Value.int .i64)) → w.grownBy w' v.ownBlock → (v'.ownBlock = v.ownBlock ∨ v'.ownBlock = some w.heap.size) → wpList Try.prog ops Q rest (a.put o.dst v') w') : wpList Try.prog ops Q (o :: rest) a w :=
  wpList_plain hgd fun K hK => by
    obtain ⟨v', w', hrun, h2, h3, h4⟩ := app_one (ty := o.type) (c := c) hown hr hB hl
    unfold Oper.wp execOp
    simp only [ho, resolve, invoke, builtin, Sem.run_bind, Sem.run_pure, Result.andThen_ok, List.map_toArray, List.map_cons, List.map_nil, hs, hx, hrun]
    exact hK _ _ (h v' w' h2 h3 h4)

end Go.Proofs.Ytjichaeegheacaa
