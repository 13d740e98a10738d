
/-
  slices.Repeat of one int.
-/
import Derived.Test.YtjichaeegheacaaTree
import Derived.Test.YtjichaeegheacaaTo
import Derived.Shelf.Bits.Mul64
import Derived.Laws.CopyOwn
import Derived.Deep.RegionLaw
namespace Go.Proofs.Ytjichaeegheacaa
open Go Go.RowKit

set_option maxRecDepth 100000 in
set_option maxHeartbeats 1000000 in
theorem Mul64_one (n : Nat) (hn : n ≤ 200) (w : World) : Calls Try.prog 42 #[.int .u64 1, .int .u64 (n : Int)] w fun e w' => e = .returned (.tuple #[.int .u64 0, .int .u64 (n : Int)]) ∧ w' = w := by
  have e1 : bits .and .u64 (n : Int) 4294967295 = (n : Int) := by rw [Mul64.maskN n (by omega)]; congr 1; omega
  have e0 : bits .and .u64 1 4294967295 = 1 := by decide
  have e2 : (n : Int) / 4294967296 = 0 := by omega
  have e3 : IntKind.u64.wrap (n : Int) = (n : Int) := Mul64.wrapN n (by omega)
  have e4 : bits .and .u64 0 4294967295 = 0 := by decide
  go_enter Try.func42, Try.ntmps42
  go_wp2
  go_ret2
  exact ⟨rfl, rfl⟩

set_option maxRecDepth 100000 in
set_option maxHeartbeats 1000000 in
theorem Mul_one (n : Nat) (hn : n ≤ 200) (w : World) : Calls Try.prog 35 #[.int .u64 1, .int .u64 (n : Int)] w fun e w' => e = .returned (.tuple #[.int .u64 0, .int .u64 (n : Int)]) ∧ w' = w := by
  go_enter Try.func35, Try.ntmps35
  go_wp2_with fail
  refine (Mul64_one n hn _).mono ?_
  rintro e w' ⟨rfl, rfl⟩
  go_wp2
  go_ret2
  exact ⟨rfl, rfl⟩


theorem splice_rep (v : Value) (n k : Nat) (cur : List Value) (hl : cur.length = n) (hk : k ≤ n) (h : ∀ j, j < k → cur[j]? = some v) (m : Nat) (hm : k + m ≤ n) : (splice cur k (List.replicate m v)).length = n ∧ ∀ j, j < k + m → (splice cur k (List.replicate m v))[j]? = some v := by
  have h1 : (splice cur k (List.replicate m v)).length = n := by rw [length_splice _ _ _ (by simp; omega), hl]
  refine ⟨h1, fun j hj => ?_⟩
  unfold splice
  by_cases q : j < k
  · rw [List.getElem?_append_left (by simp; omega), List.getElem?_take_of_lt q]
    exact h j q
  · rw [List.getElem?_append_right (by simp; omega), List.length_take, show min k cur.length = k by omega, List.getElem?_append_left (by simp; omega), List.getElem?_replicate, if_pos (by omega)]

/-- A fresh row of ints, of its whole length. -/
def FreshRow (w : World) (xs : List Int) (e : Ending) (w' : World) : Prop :=
  ∃ g, e = .returned (.slice (some ⟨g, 0, none⟩) xs.length xs.length) ∧ w.heap.size ≤ g ∧ w'.heap[g]? = some (.cells (xs.map (Value.int .i64)).toArray 3 (0, 0)) ∧ Below w.heap.size w w'

set_option maxRecDepth 100000 in
set_option maxHeartbeats 2000000 in
theorem Repeat_one (v : Int) (g c n : Nat) (hn0 : 0 < n) (hn : n ≤ 200) (w : World) (hr : RI w (some ⟨g, 0, none⟩) [v]) :
    Calls Try.prog 27 #[.slice (some ⟨g, 0, none⟩) 1 c, .int .i64 (n : Int)] w (FreshRow w (List.replicate n v)) := by
  have e1 : IntKind.u64.wrap (n : Int) = (n : Int) := wrap_u64_in _ (by omega) (by omega)
  have e2 : IntKind.i64.wrap (n : Int) = (n : Int) := by simp [IntKind.wrap, IntKind.bits, IntKind.signed]; omega
  have d1 : decide ((n : Int) < 0) = false := decide_eq_false (by omega)
  have d2 : decide ((n : Int) > 9223372036854775807) = false := decide_eq_false (by omega)
  obtain ⟨i0, hi, hz0, hz1, hz2⟩ := info_parts infoInt
  have hiI : (Try.prog.info? 3).map (·.size) = some 1 := by kernel_rfl
  go_enter Try.func27, Try.ntmps27
  go_wp2_with fail
  refine (Mul_one n hn _).mono ?_
  rintro e w' ⟨rfl, rfl⟩
  go_wp2_with (refine wpList_make_full _ rfl _ _ 22 rfl w'.heap.size 3 i0 (.int .i64 0) 1 Try.underlying22 hi hz0 hz1 _ _ _ _ n rfl rfl rfl rfl (by rw [hz2]; omega) (by unfold maxLen; omega) (Nat.le_refl _) ?_; intro W2 hown hgr)
  have hB2 : Below w'.heap.size w' W2 := (Below.refl _ w').grown hgr (Nat.le_refl _) (fun k e => by cases e)
  obtain ⟨cur0, hrow, hcsz⟩ : ∃ cs : List Value, W2.heap[w'.heap.size]? = some (.cells cs.toArray 3 (0, 0)) ∧ cs.length = n := by
    rcases hown.2 with ⟨h, _⟩ | ⟨g, cap, cur, h, _, h2, _, _, h3, _⟩
    · cases h
    · cases h; exact ⟨cur.toList, by simpa using h2, by simpa using h3⟩
  have hr2 := hr.below hB2
  obtain ⟨_, _, eg, _, hcv, _⟩ := hr2.at_ (k := 0) (by simp)
  cases eg
  clear hown hgr
  have q1 : ([Value.int .i64 v]).length = Nat.min 1 n := (Nat.min_eq_left (by omega : 1 ≤ n)).symm
  have q2 : ∀ (j : Nat) (u : Value), [Value.int .i64 v][j]? = some u → W2.cell? ((⟨g, 0, none⟩ : Addr).add j) = some u := fun j u hu => by
    match j, hu with
    | 0, hu => cases hu; exact hcv
  have q3 : 0 + ([Value.int .i64 v]).length ≤ cur0.length := by simp; omega
  have q4 : ∀ u ∈ [Value.int .i64 v], u.oneCell' = true := fun u hu => by simp at hu; subst hu; rfl
  have hcp := fun ty => run_copy_row (P := Try.prog) W2 22 22 ty 3 w'.heap.size 0 n n ⟨g, 0, none⟩ 1 c cur0.toArray 3 [.int .i64 v] Try.underlying22 hiI hrow q1 q2 (by simpa using q3) q4
  have hsp : (cur0.toArray.toList.take 0 ++ [Value.int .i64 v] ++ cur0.toArray.toList.drop (0 + [Value.int .i64 v].length)) = splice cur0 0 [Value.int .i64 v] := by unfold splice; simp
  rw [hsp] at hcp
  clear hsp
  have hs1 := splice_rep (.int .i64 v) n 0 cur0 hcsz (Nat.zero_le _) (fun j hj => absurd hj (Nat.not_lt_zero _)) 1 (by omega)
  rw [show List.replicate 1 (Value.int .i64 v) = [.int .i64 v] from rfl] at hs1
  generalize splice cur0 0 [Value.int .i64 v] = cur1 at *
  obtain ⟨hs1a, hs1b⟩ := hs1
  clear hcv hr2 q1 q2 q3 q4
  have hrow3 := setRow_heap W2 w'.heap.size cur0.toArray cur1.toArray 3 _ hrow
  have hB3 := below_setRow hB2 (Nat.le_refl _) cur1.toArray
  clear hrow hB2
  generalize hW3 : W2.setRow w'.heap.size cur1.toArray = W3 at *
  go_wp2
  rw [hcp]
  clear hcp hW3
  go_wp2
  go_loopw [8] (fun i wr => ∃ (k : Nat) (cur : List Value), 1 ≤ k ∧ k ≤ n ∧ i = .int .i64 k ∧ wr.heap[w'.heap.size]? = some (.cells cur.toArray 3 (0, 0)) ∧ cur.length = n ∧ (∀ j, j < k → cur[j]? = some (.int .i64 v)) ∧ Below w'.heap.size w' wr) (fun i _ => n - (intOf i).toNat)
  case atStart => exact ⟨1, cur1, Nat.le_refl _, hn0, rfl, hrow3, hs1a, hs1b, hB3⟩
  case round =>
    obtain ⟨k, cur, hk1, hk, rfl, hrw, hcl, hcv, hB⟩ := hrel
    by_cases hkn : k < n
    · have hd : decide ((k : Int) < (n : Int)) = true := decide_eq_true (by omega)
      have hkc : ¬ (n = k) := by omega
      obtain ⟨m, hm⟩ : ∃ m, Nat.min k (n - k) = m := ⟨_, rfl⟩
      have hm1 : m ≤ k ∧ m ≤ n - k ∧ 1 ≤ m := by
        rw [← hm]
        exact ⟨Nat.min_le_left _ _, Nat.min_le_right _ _, Nat.le_min.2 ⟨hk1, by omega⟩⟩
      obtain ⟨m1, m2, m3⟩ := hm1
      have q1 : (List.replicate m (Value.int .i64 v)).length = Nat.min k (n - k) := by rw [hm]; simp
      have q2 : ∀ W : World, W.heap = wr.heap → ∀ (j : Nat) (u : Value), (List.replicate m (Value.int .i64 v))[j]? = some u → W.cell? ((⟨w'.heap.size, 0, none⟩ : Addr).add j) = some u := fun W hW j u hu => by
        have hj : j < m := by
          have := (List.getElem?_eq_some_iff.1 hu).1
          simpa using this
        rw [List.getElem?_replicate, if_pos hj] at hu
        have hrw2 : W.heap[w'.heap.size]? = some (.cells cur.toArray 3 (0, 0)) := by rw [hW]; exact hrw
        have := cell_of_row W w'.heap.size (0 + j) cur.toArray 3 (0, 0) hrw2
        rw [show (⟨w'.heap.size, 0, none⟩ : Addr).add j = ⟨w'.heap.size, 0 + j, none⟩ by (simp [Addr.add]; try omega), this, ← hu, Nat.zero_add]
        simpa using hcv j (by omega)
      have q3 : k + (List.replicate m (Value.int .i64 v)).length ≤ cur.length := by simp; omega
      have q4 : ∀ u ∈ List.replicate m (Value.int .i64 v), u.oneCell' = true := fun u hu => by rw [(List.mem_replicate.1 hu).2]; rfl
      have hs1 := splice_rep (.int .i64 v) n k cur hcl hk hcv m (by omega)
      have hml : ((List.replicate m (Value.int .i64 v)).length : Int) = (m : Int) := by simp
      clear hm
      go_wp2
      have hdr : Below w'.heap.size w' wr.drew := hB.drew
      have hrw2 : wr.drew.heap[w'.heap.size]? = some (.cells cur.toArray 3 (0, 0)) := hrw
      have hcp := fun ty => run_copy_row (P := Try.prog) wr.drew 22 22 ty 3 w'.heap.size k (n - k) (n - k) ⟨w'.heap.size, 0, none⟩ k n cur.toArray 3 (List.replicate m (.int .i64 v)) Try.underlying22 hiI hrw2 q1 (q2 _ rfl) (by simpa using q3) q4
      have hsp : (cur.toArray.toList.take k ++ List.replicate m (Value.int .i64 v) ++ cur.toArray.toList.drop (k + (List.replicate m (Value.int .i64 v)).length)) = splice cur k (List.replicate m (.int .i64 v)) := by unfold splice; simp
      rw [hsp, show ((List.replicate m (Value.int .i64 v)).length : Int) = (m : Int) from hml] at hcp
      clear hsp
      have hrow3 := setRow_heap wr.drew w'.heap.size cur.toArray (splice cur k (List.replicate m (.int .i64 v))).toArray 3 _ hrw2
      have hB3 := below_setRow hdr (Nat.le_refl _) (splice cur k (List.replicate m (.int .i64 v))).toArray
      clear hrw2 q1 q2 q3 q4
      refine wp_region_tree_tail (S := fun W => ∃ p : Regrown, W = Sort.grow (redrawn w' p.d) p.os) (.look [0, 1, 2, 3, 4, 5, 6] (.one 7 .done)) (by kernel_rfl) (by kernel_rfl) (regrown_of_below hdr) (fun d _ _ _ _ h => by cases d <;> exact h) ?_
      refine tree_look ?_
      dsimp only [pickL, nthO]
      repeat (first
        | go_big_quiet_skip
        | (go_big_quiet_want; (go_big_quiet_op; go_big_quiet_on)))
      refine wpQuiet_nil ?_
      refine tree_one rfl ?_
      go_wp2
      refine ⟨regrown_of_below hB3, ?_⟩
      refine tree_done ?_
      simp only [MT.deep, List.length_cons, List.length_nil, Nat.reduceAdd, List.drop_succ_cons, List.drop_zero]
      go_wp2
      exact ⟨⟨k + m, _, by omega, by omega, by go_num, hrow3, hs1.1, hs1.2, hB3⟩, by simp [intOf]; omega⟩
    · obtain rfl : k = n := by omega
      have hd : decide ((k : Int) < (k : Int)) = false := by simp
      have hall : cur = List.replicate k (Value.int .i64 v) := by
        apply List.ext_getElem (by simpa using hcl)
        intro j h1 h2
        have := hcv j (by omega)
        rw [List.getElem?_eq_getElem h1] at this
        simpa using this
      clear hcv
      subst hall
      go_wp2
      go_ret
      refine ⟨w'.heap.size, by rw [List.length_replicate]; rfl, Nat.le_refl _, ?_, hB⟩
      rw [hrw, List.map_replicate]

end Go.Proofs.Ytjichaeegheacaa
