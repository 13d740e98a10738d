/-
  Law 15: its own small functions: has, awake; the kit's Pick.
-/
import Derived.Test.YtjichaeegheacaaDoorOf
import Derived.Test.YtjichaeegheacaaDoorBitsB
import Derived.Test.YtjichaeegheacaaDoorMany
import Derived.Test.YtjichaeegheacaaDoorQuiet
namespace Go.Proofs.YtjichaeegheacaaDoor
open Go Go.RowKit

/-- The kit's Pick: a remainder that is not negative. -/
def pickI (x n : Int) : Int := if n < 1 then 0 else x % n

theorem Pick_any (x n : Int) (w : World) (hx : I64 x) (hn : I64 n) :
    Calls Tryd.prog 9 #[.int .i64 x, .int .i64 n] w (fun e w' => e = .returned (.int .i64 (pickI x n)) ∧ w' = w) := by
  obtain ⟨hx1, hx2⟩ := hx
  obtain ⟨hn1, hn2⟩ := hn
  by_cases h1 : n < 1
  · have hd : decide (n < 1) = true := by simp [h1]
    rw [pickI, if_pos h1]
    go_enter Tryd.func9, Tryd.ntmps9
    go_wp2
    go_ret
    exact ⟨rfl, rfl⟩
  · have hd : decide (n < 1) = false := by simp [h1]
    have hz : n ≠ 0 := by omega
    have hz2 : ¬ (n = 0) := by omega
    have hm : ¬ (n = -1) := by omega
    have hb1 : x.tmod n < n := Int.tmod_lt_of_pos _ (by omega)
    have hb2 : -n < x.tmod n := by
      have := Int.tmod_lt_of_pos (-x) (show 0 < n by omega)
      rw [Int.neg_tmod] at this
      omega
    have hw : IntKind.i64.wrap (x.tmod n) = x.tmod n := by rw [IntKind.wrap_i64]; omega
    have hd0 : x = n * x.tdiv n + x.tmod n := by have := Int.tmod_add_mul_tdiv x n; omega
    have hmod : pickI x n = if x.tmod n < 0 then x.tmod n + n else x.tmod n := by
      rw [pickI, if_neg h1]
      generalize x.tmod n = r at *
      generalize x.tdiv n = q at *
      split
      · rename_i hh
        rw [hd0, show n * q + r = (r + n) + n * (q - 1) from by rw [Int.mul_sub]; omega, Int.add_mul_emod_self_left]
        exact Int.emod_eq_of_lt (by omega) (by omega)
      · rename_i hh
        rw [hd0, Int.add_comm, Int.add_mul_emod_self_left]
        exact Int.emod_eq_of_lt (by omega) (by omega)
    by_cases h2 : x.tmod n < 0
    · have hd2 : decide (x.tmod n < 0) = true := by simp [h2]
      have hw2 : IntKind.i64.wrap (x.tmod n + n) = x.tmod n + n := by rw [IntKind.wrap_i64]; omega
      rw [hmod, if_pos h2]
      clear hd0 hmod
      go_enter Tryd.func9, Tryd.ntmps9
      go_wp2
      go_ret
      exact ⟨rfl, rfl⟩
    · have hd2 : decide (x.tmod n < 0) = false := by simp [h2]
      rw [hmod, if_neg h2]
      clear hd0 hmod
      go_enter Tryd.func9, Tryd.ntmps9
      go_wp2
      go_ret
      exact ⟨rfl, rfl⟩

theorem contains_take_succ {xs : List Int} {k : Nat} (h : k < xs.length) (n : Int) (hn : (gI xs k == n) = false) (hc : (xs.take k).contains n = false) : (xs.take (k + 1)).contains n = false := by
  rw [List.take_add_one, gI_get h]
  rw [List.contains_eq_any_beq] at hc ⊢
  rw [List.any_append, hc]
  simp only [Option.toList_some, List.any_cons, List.any_nil, Bool.or_false, Bool.false_or]
  rw [BEq.comm]; exact hn

/-- Law 15's has. -/
def hasI (xs : List Int) (n : Int) : Bool := xs.contains n && inR n
/-- n is not among the first k. -/
def NotYet (xs : List Int) (k : Nat) (n : Int) : Prop := (xs.take k).contains n = false

set_option maxHeartbeats 400000 in
theorem has15_any (A : Option Addr) (c : Nat) (xs : List Int) (n : Int) (w : World) (hr : RI w A xs) (hn : I64 n) :
    Calls Tryd.prog 15 #[.slice A xs.length c, .int .i64 n] w (fun e w' => e = .returned (.bool (hasI xs n)) ∧ w' = w) := by
  go_enter Tryd.func15, Tryd.ntmps15
  have hl := hr.len
  obtain ⟨hn1, hn2⟩ := hn
  go_wp2
  go_loopw [5] (fun r W => ∃ k : Nat, k ≤ xs.length ∧ r = .int .i64 k ∧ NotYet xs k n ∧ W = w) (fun r _ => xs.length - (intOf r).toNat)
  case atStart => exact ⟨0, Nat.zero_le _, rfl, rfl, rfl⟩
  case round =>
    obtain ⟨k, hk, rfl, hc, rfl⟩ := hrel
    by_cases h1 : k < xs.length
    · have hd : decide ((k : Int) < (xs.length : Int)) = true := by simp [h1]
      obtain ⟨b, off, rfl, hlt, hcell, hx1, hx2⟩ := hr.at_ h1
      cases hq : (gI xs k == n)
      · have hc' : NotYet xs (k + 1) n := contains_take_succ h1 n hq hc
        have hq2 : (decide (gI xs k = n)) = false := by simpa using hq
        go_wp2
        go_roundw
        case rel => exact ⟨k + 1, by omega, by go_num, hc', by trivial⟩
        case measure => simp [intOf]; omega
      · have hin : Hid (xs.contains n = true) := Lib.hid (by
          rw [List.contains_iff_exists_mem_beq]
          exact ⟨gI xs k, gI_mem h1, by rw [BEq.comm]; exact hq⟩)
        have hi : inR n = (decide (0 ≤ n) && decide (n < 1024)) := by rw [Bool.eq_iff_iff, inR_iff]; simp
        by_cases h0 : 0 ≤ n
        · have hd0 : decide (0 ≤ n) = true := by simp [h0]
          have hd2 : decide (n ≥ 0) = true := by simp [h0]
          rw [hd0, Bool.true_and] at hi
          have hi' := Lib.hid hi
          clear hi
          go_wp2
          go_ret
          exact ⟨by rw [hasI, hin.out, hi'.out]; rfl, rfl⟩
        · have hd0 : decide (0 ≤ n) = false := by simp [h0]
          have hd2 : decide (n ≥ 0) = false := by simp [h0]
          rw [hd0, Bool.false_and] at hi
          have hi' := Lib.hid hi
          clear hi
          go_wp2
          go_ret
          exact ⟨by rw [hasI, hin.out, hi'.out]; rfl, rfl⟩
    · obtain rfl : k = xs.length := by omega
      unfold NotYet at hc
      rw [List.take_length] at hc
      have hc' := Lib.hid hc
      clear hc
      have hd : decide ((xs.length : Int) < (xs.length : Int)) = false := by simp
      go_wp2
      go_ret
      exact ⟨by rw [hasI, hc'.out]; rfl, rfl⟩

/-- A slice that a literal lays. -/
theorem RI_lit {w : World} {g : Nat} {t : TypeId} {xs : List Int} (h : w.heap[g]? = some (.cells (xs.map (Value.int .i64)).toArray t (0, 0))) (hx : ∀ x ∈ xs, I64 x) (hl : xs.length ≤ 140737488355328) : RI w (some ⟨g, 0, none⟩) xs := by
  refine ⟨hl, fun i hi => hx _ (gI_mem hi), fun _ => ⟨g, 0, rfl, blk_lt h, fun i hi => ?_⟩⟩
  rw [cell_of_row w g _ _ t (0, 0) h, Nat.zero_add]
  simp [gI_get hi]

set_option maxRecDepth 100000 in
set_option maxHeartbeats 1000000 in
theorem awake15_any (w : World) (hT : Tab w) : Calls Tryd.prog 8 #[] w (Fresh w (.bool true)) := by
  go_enter Tryd.func8, Tryd.ntmps8
  go_wp2_with fail
  have h3 : RI (w.alloc (Obj.cells #[Value.int IntKind.i64 1, Value.int IntKind.i64 64, Value.int IntKind.i64 1024] 3)) (some ⟨w.heap.size, 0, none⟩) [1, 64, 1024] :=
    RI_lit (xs := [1, 64, 1024]) (blk_new w _) (by intro x hx; simp at hx; unfold I64; omega) (by simp)
  have b3 : Below w.heap.size w (w.alloc (Obj.cells #[Value.int IntKind.i64 1, Value.int IntKind.i64 64, Value.int IntKind.i64 1024] 3)) := (Below.refl _ _).alloc (Nat.le_refl _) _
  generalize (w.alloc (Obj.cells #[Value.int IntKind.i64 1, Value.int IntKind.i64 64, Value.int IntKind.i64 1024] 3)) = wA at *
  refine (Of_any _ _ [1, 64, 1024] _ h3).mono ?_
  rintro e w1 ⟨rfl, hb⟩
  have b1 := b3.trans (hb.mono b3.size)
  clear b3 hb h3
  have hs1 := blk_new w1 (.cells (setA 0) 27)
  rw [setA_zero] at hs1
  have b2 : Below w.heap.size w ((w1.alloc (.cells #[.int .u64 0, .int .u64 0, .int .u64 0, .int .u64 0, .int .u64 0, .int .u64 0, .int .u64 0, .int .u64 0, .int .u64 0, .int .u64 0, .int .u64 0, .int .u64 0, .int .u64 0, .int .u64 0, .int .u64 0, .int .u64 0] 27)).setRow w1.heap.size (setA (withL 0 [1, 64, 1024]))) :=
    below_setRow (b1.alloc b1.size _) b1.size _
  generalize hS : withL 0 [1, 64, 1024] = S at *
  go_wp2_with (first | (refine wpList_load_row rfl _ _ rfl _ rfl _ _ _ _ (blk_setRow hs1) Tryd.underlying27 rfl (szSetA _) ?_) | (refine wpList_store_row rfl _ _ _ rfl _ _ rfl rfl _ _ hs1 (szSetA _) (by rw [setA_size]; rfl) (oneCell_setA _) ?_))
  have hs1' := blk_setRow hs1 (cs' := setA S)
  clear hs1
  generalize hWe : (w1.alloc (.cells #[.int .u64 0, .int .u64 0, .int .u64 0, .int .u64 0, .int .u64 0, .int .u64 0, .int .u64 0, .int .u64 0, .int .u64 0, .int .u64 0, .int .u64 0, .int .u64 0, .int .u64 0, .int .u64 0, .int .u64 0, .int .u64 0] 27)).setRow w1.heap.size (setA S) = W2 at *
  have hz : W2.heap.size = w1.heap.size + 1 := by rw [← hWe]; simp
  have h4 : RI (W2.alloc (.cells #[.int .i64 1] 3)) (some ⟨w1.heap.size + 1, 0, none⟩) [1] :=
    RI_lit (xs := [1]) (t := 3) (by rw [← hz]; exact blk_new W2 _) (by intro x hx; simp at hx; unfold I64; omega) (by simp)
  have hs2 := (blk_old W2 (.cells #[.int .i64 1] 3) (blk_lt hs1')).trans hs1'
  have b3 := b2.alloc b2.size (.cells #[.int .i64 1] 3)
  have hlt := blk_lt hs2
  have hg1 := b1.size
  generalize w1.heap.size = g1 at *
  generalize W2.alloc (.cells #[.int .i64 1] 3) = W3 at *
  refine (Without_any S _ _ [1] _ h4).mono ?_
  rintro e W4 ⟨rfl, hb⟩
  have hs4 := blk_below hb hs2 hlt
  have b4 := b3.trans (hb.mono b3.size)
  have hn := blk_new W4 (.cells (setA 0) 27)
  rw [setA_zero] at hn
  have hne : g1 ≠ W4.heap.size := by have := hb.size; omega
  have hs5 := (blk_setRow_far (cs' := setA (outL S [1])) hne).trans ((blk_old W4 (.cells #[.int .u64 0, .int .u64 0, .int .u64 0, .int .u64 0, .int .u64 0, .int .u64 0, .int .u64 0, .int .u64 0, .int .u64 0, .int .u64 0, .int .u64 0, .int .u64 0, .int .u64 0, .int .u64 0, .int .u64 0, .int .u64 0] 27) (blk_lt hs4)).trans hs4)
  have b5 := below_setRow (b4.alloc b4.size (.cells #[.int .u64 0, .int .u64 0, .int .u64 0, .int .u64 0, .int .u64 0, .int .u64 0, .int .u64 0, .int .u64 0, .int .u64 0, .int .u64 0, .int .u64 0, .int .u64 0, .int .u64 0, .int .u64 0, .int .u64 0, .int .u64 0] 27)) b4.size (setA (outL S [1]))
  generalize hU : outL S [1] = U at *
  have hn' := blk_setRow hn (cs' := setA U)
  go_wp2_with (first | (refine wpList_load_row rfl _ _ rfl _ rfl _ _ _ _ hs5 Tryd.underlying27 rfl (szSetA _) ?_) | (refine wpList_store_row rfl _ _ _ rfl _ _ rfl rfl _ _ hn (szSetA _) (by rw [setA_size]; rfl) (oneCell_setA _) ?_))
  clear hn hs4 hne b4 hb h4 hs2 b3 hs1' hz b2 b1
  generalize (W4.alloc (.cells #[.int .u64 0, .int .u64 0, .int .u64 0, .int .u64 0, .int .u64 0, .int .u64 0, .int .u64 0, .int .u64 0, .int .u64 0, .int .u64 0, .int .u64 0, .int .u64 0, .int .u64 0, .int .u64 0, .int .u64 0, .int .u64 0] 27)).setRow W4.heap.size (setA U) = W5 at *
  generalize W4.heap.size = g2 at *
  have e1 : (upTo S 1024).length = 2 := by subst hS; kernel_rfl
  have e2 : firstN S = 1 := by subst hS; kernel_rfl
  have e3 : firstN U = 64 := by subst hU; subst hS; kernel_rfl
  have e4 : (inR 64 && U.testBit (Int.toNat 64)) = true := by subst hU; subst hS; kernel_rfl
  have e5 : (inR 1 && U.testBit (Int.toNat 1)) = false := by subst hU; subst hS; kernel_rfl
  clear hU hS
  have M := Many_any S W5
  rw [e1] at M
  refine M.mono ?_
  rintro e W6 ⟨rfl, hb⟩
  have hs5 := blk_below hb hs5 (blk_lt hs5)
  have hn' := blk_below hb hn' (blk_lt hn')
  have b5 := b5.trans (hb.mono b5.size)
  clear hb
  go_wp2_with (first | (refine wpList_load_row rfl _ _ rfl _ rfl _ _ _ _ hs5 Tryd.underlying27 rfl (szSetA _) ?_) | (refine wpList_load_rowG rfl _ _ rfl _ rfl _ _ _ _ hs5 Tryd.underlying27 rfl (szSetA _) ?_) | (refine wpList_load_rowG rfl _ _ rfl _ rfl _ _ _ _ hn' Tryd.underlying27 rfl (szSetA _) ?_))
  have M := First_any S W6 (hT.below b5)
  rw [e2] at M
  refine M.mono ?_
  rintro e W7 ⟨rfl, hb⟩
  have hs5 := blk_below hb hs5 (blk_lt hs5)
  have hn' := blk_below hb hn' (blk_lt hn')
  have b5 := b5.trans (hb.mono b5.size)
  clear hb
  go_wp2_with (first | (refine wpList_load_row rfl _ _ rfl _ rfl _ _ _ _ hs5 Tryd.underlying27 rfl (szSetA _) ?_) | (refine wpList_load_rowG rfl _ _ rfl _ rfl _ _ _ _ hs5 Tryd.underlying27 rfl (szSetA _) ?_) | (refine wpList_load_rowG rfl _ _ rfl _ rfl _ _ _ _ hn' Tryd.underlying27 rfl (szSetA _) ?_))
  have M := First_any U W7 (hT.below b5)
  rw [e3] at M
  refine M.mono ?_
  rintro e W8 ⟨rfl, hb⟩
  have hs5 := blk_below hb hs5 (blk_lt hs5)
  have hn' := blk_below hb hn' (blk_lt hn')
  have b5 := b5.trans (hb.mono b5.size)
  clear hb
  go_wp2_with (first | (refine wpList_load_row rfl _ _ rfl _ rfl _ _ _ _ hs5 Tryd.underlying27 rfl (szSetA _) ?_) | (refine wpList_load_rowG rfl _ _ rfl _ rfl _ _ _ _ hs5 Tryd.underlying27 rfl (szSetA _) ?_) | (refine wpList_load_rowG rfl _ _ rfl _ rfl _ _ _ _ hn' Tryd.underlying27 rfl (szSetA _) ?_))
  have M := Has_any U 64 W8 (by unfold I64; omega)
  rw [e4] at M
  refine M.mono ?_
  rintro e W9 ⟨rfl, hb⟩
  have hs5 := blk_below hb hs5 (blk_lt hs5)
  have hn' := blk_below hb hn' (blk_lt hn')
  have b5 := b5.trans (hb.mono b5.size)
  clear hb
  go_wp2_with (first | (refine wpList_load_row rfl _ _ rfl _ rfl _ _ _ _ hs5 Tryd.underlying27 rfl (szSetA _) ?_) | (refine wpList_load_rowG rfl _ _ rfl _ rfl _ _ _ _ hs5 Tryd.underlying27 rfl (szSetA _) ?_) | (refine wpList_load_rowG rfl _ _ rfl _ rfl _ _ _ _ hn' Tryd.underlying27 rfl (szSetA _) ?_))
  have M := Has_any U 1 W9 (by unfold I64; omega)
  rw [e5] at M
  refine M.mono ?_
  rintro e W10 ⟨rfl, hb⟩
  have hs5 := blk_below hb hs5 (blk_lt hs5)
  have hn' := blk_below hb hn' (blk_lt hn')
  have b5 := b5.trans (hb.mono b5.size)
  clear hb
  go_wp2
  go_ret
  exact ⟨rfl, b5⟩

end Go.Proofs.YtjichaeegheacaaDoor
