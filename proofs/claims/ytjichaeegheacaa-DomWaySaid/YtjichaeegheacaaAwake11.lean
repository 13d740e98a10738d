
/-
  Law 11: the chapter's example.
-/
import Derived.Test.YtjichaeegheacaaBoth
namespace Go.Proofs.Ytjichaeegheacaa
open Go Go.RowKit

def bs11 : List Blk := [⟨.slice none 0 0, ⟨2, 1, 1, 2⟩⟩, ⟨.slice none 0 0, ⟨1, 0, 3, 0⟩⟩, ⟨.slice none 0 0, ⟨1, 0, 3, 0⟩⟩, ⟨.slice none 0 0, ⟨4, 0, 0, 0⟩⟩]
theorem closed11 : closedB bs11 = true := by kernel_rfl
theorem su11_0 : suB bs11 0 = [1, 2] := by kernel_rfl
theorem su11_1 : suB bs11 1 = [3] := by kernel_rfl
theorem su11_2 : suB bs11 2 = [3] := by kernel_rfl
theorem rt11_1 {a : Int} (h0 : a ≠ 0) (h1 : a ≠ 1) : Rt (suB bs11) 4 [0] [a] 1 :=
  .step (x := 0) (.base (by simp) (by simpa using fun e => h0 e.symm) (by omega) (by decide)) (by rw [su11_0]; simp) (by simpa using fun e => h1 e.symm)
theorem rt11_2 {a : Int} (h0 : a ≠ 0) (h1 : a ≠ 2) : Rt (suB bs11) 4 [0] [a] 2 :=
  .step (x := 0) (.base (by simp) (by simpa using fun e => h0 e.symm) (by omega) (by decide)) (by rw [su11_0]; simp) (by simpa using fun e => h1 e.symm)
theorem rt11_3 {a : Int} (h0 : a ≠ 0) (h3 : a ≠ 3) : Rt (suB bs11) 4 [0] [a] 3 := by
  by_cases h : a = 1
  · exact .step (rt11_2 h0 (by omega)) (by rw [su11_2]; simp) (by simpa using fun e => h3 e.symm)
  · exact .step (rt11_1 h0 h) (by rw [su11_1]; simp) (by simpa using fun e => h3 e.symm)
theorem way11_1 : Way (suB bs11) 0 1 := .step (.refl 0) (by rw [su11_0]; simp)
theorem way11_2 : Way (suB bs11) 0 2 := .step (.refl 0) (by rw [su11_0]; simp)
theorem way11_3 : Way (suB bs11) 0 3 := way11_1.step (by rw [su11_1]; simp)
/-- What dominates a block of the example: block 0, or itself. -/
theorem dom11 {a b : Int} (hb : b = 1 ∨ b = 2 ∨ b = 3) (h : DomP bs11 a b) : a = 0 ∨ a = b := by
  apply Decidable.byContradiction
  intro hn
  rw [not_or] at hn
  refine h.2.2 ?_
  rcases hb with rfl | rfl | rfl
  · exact rt11_1 hn.1 hn.2
  · exact rt11_2 hn.1 hn.2
  · exact rt11_3 hn.1 hn.2
theorem rt_not {su : Int → List Int} {n : Nat} {f nt : List Int} {x : Int} (h : Rt su n f nt x) : x ∉ nt := by
  cases h with
  | base _ h _ _ => exact h
  | step _ _ h => exact h
theorem rt_none {su : Int → List Int} {n : Nat} {x : Int} (h : Rt su n [0] [0] x) : False := by
  induction h with
  | base h1 h2 _ _ => exact h2 h1
  | step _ _ _ ih => exact ih
theorem dom_self {bs : List Blk} {x : Int} (h : Way (suB bs) 0 x) : DomP bs x x := ⟨h, h, fun q => rt_not q (by simp)⟩
theorem dom11_03 : DomP bs11 0 3 := ⟨way11_3, .refl 0, fun q => rt_none q⟩
theorem dom11_13 : ¬ DomP bs11 1 3 := fun h => by rcases dom11 (.inr (.inr rfl)) h with h | h <;> omega
theorem both11 {x : Int} (h : BothP bs11 1 3 x) : x = 0 := by
  obtain ⟨h1, h2⟩ := h.1 ⟨way11_1, way11_3⟩
  obtain ⟨q1, q2⟩ := (h2 x).1 (dom_self h1)
  have a1 := dom11 (.inl rfl) q1
  have a2 := dom11 (.inr (.inr rfl)) q2
  omega
theorem up11 {l : List Int} {T : PTree} (h : DomOk bs11 l T) : uOf l bs11.length T = [-1, 0, 0, 0] := by
  have hc : Cl bs11 := closed_cl (by
    intro i hi
    match i, hi with
    | 0, _ => exact ⟨⟨by decide, by decide⟩, ⟨by decide, by decide⟩, ⟨by decide, by decide⟩, ⟨by decide, by decide⟩⟩
    | 1, _ => exact ⟨⟨by decide, by decide⟩, ⟨by decide, by decide⟩, ⟨by decide, by decide⟩, ⟨by decide, by decide⟩⟩
    | 2, _ => exact ⟨⟨by decide, by decide⟩, ⟨by decide, by decide⟩, ⟨by decide, by decide⟩, ⟨by decide, by decide⟩⟩
    | 3, _ => exact ⟨⟨by decide, by decide⟩, ⟨by decide, by decide⟩, ⟨by decide, by decide⟩, ⟨by decide, by decide⟩⟩) closed11
  obtain ⟨on, o0, opos, oway, ook⟩ := order_facts hc h.ord
  have hk := treeOk_of hc h.ord h.wf h.tl
  have u0 : gI (uOf l bs11.length T) 0 = -1 := by
    have := (hk.upk opos (k := 0) o0).1
    rw [this]; unfold upI; rw [h.wf.root]
  have ub : ∀ b : Nat, (b = 1 ∨ b = 2 ∨ b = 3) → Way (suB bs11) 0 (b : Int) → gI (uOf l bs11.length T) b = 0 := fun b hb hw => by
    obtain ⟨i, hi, e1, _⟩ := mem_place ((oway _).2 hw)
    have hu := (hk.upk hi e1).1
    have hi0 : i ≠ 0 := by
      rintro rfl
      rw [o0] at e1; omega
    obtain ⟨j, hj⟩ := (h.dn i hi).resolve_left hi0
    have hlt := h.wf.lt _ _ hj
    have hd : DomP bs11 (gI l j) (gI l i) := (dom_an_iff hc h hi _).2 ⟨j, .step hj (.refl j), rfl⟩
    rw [e1] at hd
    rw [hu]
    unfold upI
    rw [hj]
    rcases dom11 (by omega) hd with q | q
    · exact q
    · have := gI_inj on (show j < l.length by omega) hi (q.trans e1.symm)
      omega
  have hl := uOf_len l bs11.length T
  have u1 := ub 1 (.inl rfl) way11_1
  have u2 := ub 2 (.inr (.inl rfl)) way11_2
  have u3 := ub 3 (.inr (.inr rfl)) way11_3
  refine ext_gI (by rw [hl]; rfl) (fun i hi => ?_)
  rw [hl] at hi
  match i, hi with
  | 0, _ => exact u0
  | 1, _ => exact u1
  | 2, _ => exact u2
  | 3, _ => exact u3

set_option maxRecDepth 100000 in
theorem branch11_any (x y : Int) (w : World) : Calls Try.prog 12 #[.int .i64 x, .int .i64 y] w (Fresh w (.agg #[.slice none 0 0, .int .i64 2, .int .i64 1, .int .i64 x, .int .i64 y])) := by
  go_enter Try.func12, Try.ntmps12
  go_wp2
  exact bodyPost_ret (results_cell_row rfl _ _ _ _ _ _ _ rfl (blk_new w _) Try.underlying44 rfl (by kernel_rfl)) rfl ⟨rfl, (Below.refl _ _).alloc (Nat.le_refl _) _⟩
set_option maxRecDepth 100000 in
theorem jump11_any (x : Int) (w : World) : Calls Try.prog 13 #[.int .i64 x] w (Fresh w (.agg #[.slice none 0 0, .int .i64 1, .int .i64 0, .int .i64 x, .int .i64 0])) := by
  go_enter Try.func13, Try.ntmps13
  go_wp2
  exact bodyPost_ret (results_cell_row rfl _ _ _ _ _ _ _ rfl (blk_new w _) Try.underlying44 rfl (by kernel_rfl)) rfl ⟨rfl, (Below.refl _ _).alloc (Nat.le_refl _) _⟩

set_option maxRecDepth 100000 in
set_option maxHeartbeats 2000000 in
theorem awake11_any (w : World) : Calls Try.prog 4 #[] w (Fresh w (.bool true)) := by
  go_enter Try.func4, Try.ntmps4
  go_wp2_with fail
  refine (branch11_any 1 2 w).mono ?_
  rintro e W1 ⟨rfl, hb1⟩
  go_wp2_with fail
  refine (jump11_any 3 _).mono ?_
  rintro e W2 ⟨rfl, hb2⟩
  go_wp2_with fail
  refine (jump11_any 3 _).mono ?_
  rintro e W3 ⟨rfl, hb3⟩
  have hB3 := hb1.trans ((hb2.trans (hb3.mono hb2.size)).mono hb1.size)
  clear hb1 hb2 hb3
  go_wp2_with fail
  have hbl := blk_new W3 (.cells #[.slice none 0 0, .int .i64 2, .int .i64 1, .int .i64 1, .int .i64 2, .slice none 0 0, .int .i64 1, .int .i64 0, .int .i64 3, .int .i64 0, .slice none 0 0, .int .i64 1, .int .i64 0, .int .i64 3, .int .i64 0, .slice none 0 0, .int .i64 4, .int .i64 0, .int .i64 0, .int .i64 0] 44)
  have hbf := blk_new (W3.alloc (.cells #[.slice none 0 0, .int .i64 2, .int .i64 1, .int .i64 1, .int .i64 2, .slice none 0 0, .int .i64 1, .int .i64 0, .int .i64 3, .int .i64 0, .slice none 0 0, .int .i64 1, .int .i64 0, .int .i64 3, .int .i64 0, .slice none 0 0, .int .i64 4, .int .i64 0, .int .i64 0, .int .i64 0] 44)) (.cells #[.slice none 0 0, .slice (some ⟨W3.heap.size, 0, none⟩) 4 4] 25)
  rw [World.size_alloc] at hbf
  have hbl2 := (blk_old _ (.cells #[.slice none 0 0, .slice (some ⟨W3.heap.size, 0, none⟩) 4 4] 25) (blk_lt hbl)).trans hbl
  have hB4 := (hB3.alloc hB3.size (.cells #[.slice none 0 0, .int .i64 2, .int .i64 1, .int .i64 1, .int .i64 2, .slice none 0 0, .int .i64 1, .int .i64 0, .int .i64 3, .int .i64 0, .slice none 0 0, .int .i64 1, .int .i64 0, .int .i64 3, .int .i64 0, .slice none 0 0, .int .i64 4, .int .i64 0, .int .i64 0, .int .i64 0] 44)).alloc (by have := hB3.size; simp; omega) (.cells #[.slice none 0 0, .slice (some ⟨W3.heap.size, 0, none⟩) 4 4] 25)
  have hrf := rf_lit (bs := bs11) hbl2 (by
    intro i hi
    match i, hi with
    | 0, _ => exact ⟨⟨by decide, by decide⟩, ⟨by decide, by decide⟩, ⟨by decide, by decide⟩, ⟨by decide, by decide⟩⟩
    | 1, _ => exact ⟨⟨by decide, by decide⟩, ⟨by decide, by decide⟩, ⟨by decide, by decide⟩, ⟨by decide, by decide⟩⟩
    | 2, _ => exact ⟨⟨by decide, by decide⟩, ⟨by decide, by decide⟩, ⟨by decide, by decide⟩, ⟨by decide, by decide⟩⟩
    | 3, _ => exact ⟨⟨by decide, by decide⟩, ⟨by decide, by decide⟩, ⟨by decide, by decide⟩, ⟨by decide, by decide⟩⟩)
    (by
      intro i hi
      match i, hi with
      | 0, _ => rfl
      | 1, _ => rfl
      | 2, _ => rfl
      | 3, _ => rfl) (by decide) (by
      intro k hk
      have hk2 : k < 20 := hk
      have hk3 : k = 0 ∨ k = 1 ∨ k = 2 ∨ k = 3 ∨ k = 4 ∨ k = 5 ∨ k = 6 ∨ k = 7 ∨ k = 8 ∨ k = 9 ∨ k = 10 ∨ k = 11 ∨ k = 12 ∨ k = 13 ∨ k = 14 ∨ k = 15 ∨ k = 16 ∨ k = 17 ∨ k = 18 ∨ k = 19 := by omega
      rcases hk3 with rfl | rfl | rfl | rfl | rfl | rfl | rfl | rfl | rfl | rfl | rfl | rfl | rfl | rfl | rfl | rfl | rfl | rfl | rfl | rfl <;> rfl)
  clear hbl hbl2 hB3
  generalize (W3.alloc _).alloc _ = W4 at *
  generalize W3.heap.size = g at *
  refine (DomOf_any (.slice none 0 0) (some ⟨g, 0, none⟩) 4 bs11 W4 hrf closed11).mono ?_
  rintro e W5 ⟨bu, l, T, rfl, ho, hu, hT, hD, hb5⟩
  have hup := up11 hD
  have hb5' := hb5
  have hbf5 := blk_below hb5 hbf (blk_lt hbf)
  have hB5 := hB4.trans (hb5.mono hB4.size)
  rw [hup] at hu
  simp only [hup]
  clear ho hT hD hup hB4
  go_wp2_with fail
  have hbA := (Below.refl W5.heap.size W5).alloc (Nat.le_refl _) (.cells #[.int .i64 (-1), .int .i64 0, .int .i64 0, .int .i64 0] 3)
  have qs := SameInts_any (some ⟨bu, 0, none⟩) (some ⟨W5.heap.size, 0, none⟩) 4 4 [-1, 0, 0, 0] [-1, 0, 0, 0] _ (hu.below hbA) (RI_lit (blk_new W5 (.cells #[.int .i64 (-1), .int .i64 0, .int .i64 0, .int .i64 0] 3)) (by intro x hx; simp at hx; rcases hx with rfl | rfl <;> exact ⟨by decide, by decide⟩) (by decide))
  rw [show decide (([-1, 0, 0, 0] : List Int) = [-1, 0, 0, 0]) = true from rfl] at qs
  refine qs.mono ?_
  clear qs
  rintro e W6 ⟨rfl, hb6⟩
  have hb6' := hbA.trans (hb6.mono hbA.size)
  have hbf6 := blk_below hb6' hbf5 (blk_lt hbf5)
  have hB6 := hB5.trans (hb6'.mono hB5.size)
  have hrf6 := hrf.below (hb5.trans (hb6'.mono hb5.size))
  clear hb6 hbA hb5' hu
  go_wp2_with (refine wpList_load_rowG rfl _ _ rfl _ rfl _ _ _ _ hbf6 Try.underlying25 rfl (by kernel_rfl) ?_)
  refine (Over_any (.slice none 0 0) (some ⟨g, 0, none⟩) 4 bs11 0 3 ⟨by decide, by decide⟩ W6 hrf6 closed11).mono ?_
  rintro e W7 ⟨v, rfl, hv, hb7⟩
  obtain rfl := hv.2 dom11_03
  have hbf7 := blk_below hb7 hbf6 (blk_lt hbf6)
  have hB7 := hB6.trans (hb7.mono hB6.size)
  have hrf7 := hrf6.below hb7
  clear hv
  go_wp2_with (refine wpList_load_rowG rfl _ _ rfl _ rfl _ _ _ _ hbf7 Try.underlying25 rfl (by kernel_rfl) ?_)
  refine (Over_any (.slice none 0 0) (some ⟨g, 0, none⟩) 4 bs11 1 3 ⟨by decide, by decide⟩ W7 hrf7 closed11).mono ?_
  rintro e W8 ⟨v, rfl, hv, hb8⟩
  have hvf : v = false := by
    cases v with
    | false => rfl
    | true => exact absurd (hv.1 rfl) dom11_13
  subst hvf
  have hbf8 := blk_below hb8 hbf7 (blk_lt hbf7)
  have hB8 := hB7.trans (hb8.mono hB7.size)
  have hrf8 := hrf7.below hb8
  clear hv
  go_wp2_with (refine wpList_load_rowG rfl _ _ rfl _ rfl _ _ _ _ hbf8 Try.underlying25 rfl (by kernel_rfl) ?_)
  refine (Both_any (.slice none 0 0) (some ⟨g, 0, none⟩) 4 bs11 1 3 ⟨by decide, by decide⟩ ⟨by decide, by decide⟩ W8 hrf8 closed11).mono ?_
  rintro e W9 ⟨x, rfl, hx, hb9⟩
  obtain rfl := both11 hx
  clear hx
  go_wp2
  go_ret
  exact ⟨rfl, hB8.trans (hb9.mono hB8.size)⟩

end Go.Proofs.Ytjichaeegheacaa
