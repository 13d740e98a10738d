
/-
  append of ints that a slice reads (none too) onto a row of one's own.
-/
import Derived.Test.YtjichaeegheacaaIter
import Derived.Deep.AppendLies
import Derived.Deep.RegionLaw
namespace Go.Proofs.Ytjichaeegheacaa
open Go Go.RowKit

theorem drop_RI {w : World} {xs : List Int} {b off : Nat} (h : RI w (some ⟨b, off, none⟩) xs) (k : Nat) : RI w (some ⟨b, off + k, none⟩) (xs.drop k) := by
  refine ⟨Nat.le_trans (by simp) h.len, fun i hi => ?_, fun hm => ?_⟩
  · have hi' : k + i < xs.length := by simp at hi; omega
    have := h.rng (k + i) hi'
    simpa [gI] using this
  · have hm' : 0 < xs.length := by simp at hm; omega
    obtain ⟨b', off', e, hlt, hc⟩ := h.rd hm'
    cases e
    refine ⟨b, off + k, rfl, hlt, fun i hi => ?_⟩
    have hi' : k + i < xs.length := by simp at hi; omega
    have := hc (k + i) hi'
    rw [Nat.add_assoc, this]
    simp [gI]
theorem take_RI {w : World} {A : Option Addr} {xs : List Int} (h : RI w A xs) (k : Nat) : RI w A (xs.take k) := by
  refine ⟨Nat.le_trans (by simp; omega) h.len, fun i hi => ?_, fun hm => ?_⟩
  · have hi' : i < k ∧ i < xs.length := by simp at hi; omega
    have := h.rng i hi'.2
    simpa [gI, hi'.1] using this
  · have hm' : 0 < xs.length := by simp at hm; omega
    obtain ⟨b', off', e, hlt, hc⟩ := h.rd hm'
    refine ⟨b', off', e, hlt, fun i hi => ?_⟩
    have hi' : i < k ∧ i < xs.length := by simp at hi; omega
    rw [hc i hi'.2]
    simp [gI, hi'.1]

theorem Rd.news {w : World} {b off : Nat} {ys : List Int} (h : RI w (some ⟨b, off, none⟩) ys) : ∀ j u, (ys.map (Value.int .i64))[j]? = some u → w.cell? ((⟨b, off, none⟩ : Addr).add j) = some u := by
  intro j u hu
  rw [List.getElem?_map] at hu
  by_cases hj : j < ys.length
  · obtain ⟨b', off', e, hlt, hc⟩ := h.rd (by omega)
    cases e
    rw [gI_get hj] at hu
    cases hu
    have := hc j hj
    have hadd : (⟨b, off, none⟩ : Addr).add j = ⟨b, off + j, none⟩ := by unfold Addr.add; split <;> simp_all
    rw [hadd]; exact this
  · rw [List.getElem?_eq_none (by omega)] at hu
    cases hu

theorem grown_below {B : Nat} {w w' : World} {v : Value} (hg : w.grownBy w' v.ownBlock) (hB : B ≤ w.heap.size) (hv : ∀ k, v.ownBlock = some k → B ≤ k) : Below B w w' :=
  (Below.refl B w).grown hg hB hv

/-- A slice of ints that came in: its address has no odd spot, its length fits its capacity. -/
structure SI (w : World) (A : Option Addr) (c : Nat) (xs : List Int) : Prop where
  ri : RI w A xs
  cap : xs.length ≤ c
  spot : ∀ a, A = some a → a.spot = none
  nil : A = none → c = 0
theorem SI.none_nil {w : World} {c : Nat} {xs : List Int} (h : SI w none c xs) : xs = [] ∧ c = 0 := by
  have h0 := h.nil rfl
  have := h.cap
  exact ⟨List.eq_nil_of_length_eq_zero (by omega), h0⟩

theorem app_ints {w : World} {B : Nat} {ty : TypeId} {v : Value} {xs ys : List Int} {A : Option Addr} {c : Nat} (hown : w.ownsRow B 3 1 v xs.length (xs.map (Value.int .i64))) (hr : RI w A ys)
    (hA : A = none → ys = []) (hB : B ≤ w.heap.size) (hl : xs.length + ys.length ≤ 17592186044416) :
    ∃ v' w', (Builtin.append_ #[22, 22] ty #[v, .slice A ys.length c]).run Try.prog w = .ok v' w' ∧ w'.ownsRow B 3 1 v' (xs ++ ys).length ((xs ++ ys).map (Value.int .i64)) ∧ Below B w w' := by
  obtain ⟨i0, hi, hz0, hz1, hz2⟩ := info_parts infoInt
  cases A with
  | some a =>
    have ha : ys ≠ [] → a.spot = none := fun hne => by
      obtain ⟨b, off, e, _⟩ := hr.rd (List.length_pos_iff.2 hne)
      cases e; rfl
    have hnews : ∀ j u, (ys.map (Value.int .i64))[j]? = some u → w.cell? (a.add j) = some u := by
      intro j u hu
      have hj : ys ≠ [] := by rintro rfl; simp at hu
      obtain ⟨b, off, spot⟩ := a
      have := ha hj
      simp only at this
      subst this
      exact Rd.news hr j u hu
    obtain ⟨v', w', h1, h2, h3, h4, h5⟩ := run_append_own_at (P := Try.prog) w B 22 ty 3 i0 (.int .i64 0) 1 8 Try.underlying22 hi hz0 hz1 hz2 rfl (by decide) v xs.length _ hown a ys.length c (ys.map (Value.int .i64)) (by simp) hnews (by simp [Value.oneCell']) (by unfold maxLen; omega) (by omega) hB
    refine ⟨v', w', h1, ?_, grown_below h3 hB (fun k hk => (hown.lt k hk).1)⟩
    rw [List.length_append, List.map_append]; exact h2
  | none =>
    obtain rfl := hA rfl
    refine ⟨v, w, ?_, by simpa using hown, Below.refl _ _⟩
    have hsz : i0.size = 1 := hz1
    rcases hown.2 with ⟨rfl, h0⟩ | ⟨g, cap, cur, rfl, hbg, hg, hnc, hcm, hcs, htake⟩
    · simp [Builtin.append_, run_underlying Try.underlying22, sizeOf, typeInfo, run_program, hi, Builtin.lenOf, Builtin.firstCells]
    · simp [Builtin.append_, run_underlying Try.underlying22, sizeOf, typeInfo, run_program, hi, Builtin.lenOf, Builtin.firstCells, hnc, storeCells]

theorem step_app {ops : Array Oper} {o : Oper} {a : Act} {w : World} {K : Act → World → Prop} {Q : Exit → Act → World → Prop} {E : Prop} (hgd : o.guard = none) (s x : Operand)
    (ho : o.op = .call { callee := .builtin .append, args := #[s, x], argTypes := #[22, 22] }) (B : Nat) (v : Value) (hs : a.eval s = v) (xs : List Int) (hown : w.ownsRow B 3 1 v xs.length (xs.map (Value.int .i64)))
    (A : Option Addr) (c m : Nat) (hx : a.eval x = .slice A m c) (ys : List Int) (hm : m = ys.length) (hr : RI w A ys) (hA : A = none → ys = []) (hB : B ≤ w.heap.size) (hl : xs.length + ys.length ≤ 17592186044416)
    (h : ∀ v' w', w'.ownsRow B 3 1 v' (xs ++ ys).length ((xs ++ ys).map (Value.int .i64)) → Below B w w' → K (a.put o.dst v') w') : if Region.wanted o (yielded ops a.tmps) = true then Oper.wp Try.prog o a w K Q else E := by
  have hw : Region.wanted o (yielded ops a.tmps) = true := by simp [Region.wanted, hgd]
  rw [if_pos hw]
  subst hm
  obtain ⟨v', w', hrun, h2, h3⟩ := app_ints (ty := o.type) hown hr (c := c) hA hB hl
  unfold Oper.wp execOp
  simp only [ho, resolve, invoke, builtin, Sem.run_bind, Sem.run_pure, Result.andThen_ok, List.map_toArray, List.map_cons, List.map_nil, hs, hx, hrun]
  exact h v' w' h2 h3

end Go.Proofs.Ytjichaeegheacaa
