/-
  Law 15, BitsTurn: the walk.
-/
import Derived.Test.YtjichaeegheacaaDoorAwake15
import Derived.Test.YtjichaeegheacaaDoorBitsC
import Derived.Test.YtjichaeegheacaaDoorApp
namespace Go.Proofs.YtjichaeegheacaaDoor
open Go Go.RowKit

section
variable {S : Nat} (hS : Sm S) (ys os : List Int)
include hS
theorem turn1 (h : ∀ x : Int, os.contains x = ys.contains x) : withL S ys = withL (withL S os) ys :=
  set_ext (withL_sm _ hS) (withL_sm _ (withL_sm _ hS)) fun j hj => by
    rw [testBit_withL _ hj, testBit_withL _ hj, testBit_withL _ hj, h]
    cases S.testBit j <;> cases ys.contains (j : Int) <;> rfl
theorem turn2 (h : ∀ x : Int, os.contains x = ys.contains x) : outL S ys = outL (outL S os) ys :=
  set_ext (outL_sm _ hS) (outL_sm _ (outL_sm _ hS)) fun j hj => by
    rw [testBit_outL _ hj, testBit_outL _ hj, testBit_outL _ hj, h]
    cases S.testBit j <;> cases ys.contains (j : Int) <;> rfl
theorem turn3 : outL (withL S ys) ys = lessN S (withL 0 ys) :=
  set_ext (outL_sm _ (withL_sm _ hS)) (less_sm _ hS) fun j hj => by
    rw [testBit_outL _ hj, testBit_withL _ hj, testBit_lessN, testBit_withL _ hj, Nat.zero_testBit]
    cases S.testBit j <;> cases ys.contains (j : Int) <;> rfl
theorem turn4 : withL (outL S ys) ys = S ||| (withL 0 ys) :=
  set_ext (withL_sm _ (outL_sm _ hS)) (or_sm hS (withL_sm _ sm_zero)) fun j hj => by
    rw [testBit_withL _ hj, testBit_outL _ hj, Nat.testBit_or, testBit_withL _ hj, Nat.zero_testBit]
    cases S.testBit j <;> cases ys.contains (j : Int) <;> rfl
end
theorem turn5 (ys os : List Int) (h : ∀ x : Int, os.contains x = ys.contains x) : withL 0 ys = withL 0 os :=
  set_ext (withL_sm _ sm_zero) (withL_sm _ sm_zero) fun j hj => by
    rw [testBit_withL _ hj, testBit_withL _ hj, h]
set_option maxRecDepth 100000 in
set_option maxHeartbeats 4000000 in
theorem BitsTurn_any (A B : Option Addr) (ca cb : Nat) (xs ys : List Int) (n : Int) (w : World) (hA : RI w A xs) (hBs : SI w B cb ys) (hn : I64 n) (hT : Tab w) :
    Calls Tryd.prog 3 #[.slice A xs.length ca, .slice B ys.length cb, .int .i64 n] w (Fresh w (.bool true)) := by
  have hB := hBs.ri
  have hcb := hBs.cap
  have hla := hA.len
  have hlb := hB.len
  go_enter Tryd.func3, Tryd.ntmps3
  go_wp2_with fail
  refine (awake15_any w hT).mono ?_
  rintro e w1 ⟨rfl, b1⟩
  by_cases h1 : ((xs.length : Int) + (ys.length : Int) > 3000)
  · have hd : decide (((xs.length : Int) + (ys.length : Int) > 3000)) = true := decide_eq_true h1
    go_wp2
    go_ret
    exact ⟨rfl, b1⟩
  have hd : decide (((xs.length : Int) + (ys.length : Int) > 3000)) = false := decide_eq_false h1
  go_wp2_with fail
  refine (Pick_any n _ _ hn ⟨by omega, by omega⟩).mono ?_
  rintro e w2 ⟨rfl, rfl⟩
  obtain ⟨k, hk, hkl⟩ : ∃ k : Nat, pickI n ((ys.length : Int) + 1) = k ∧ k ≤ ys.length := by
    refine ⟨(pickI n ((ys.length : Int) + 1)).toNat, ?_, ?_⟩ <;> rw [pickI, if_neg (by omega)]
    · rw [Int.toNat_of_nonneg]; exact Int.emod_nonneg _ (by omega)
    · have := Int.emod_lt_of_pos n (show 0 < (ys.length : Int) + 1 by omega); omega
  rw [hk]
  clear hk
  go_wp2
  have bW : Below w.heap.size w (w2.alloc (.cells #[] 3)) := b1.alloc b1.size _
  have oW := World.ownsRow_made (base := w.heap.size) (e := 3) (size := 1) w2 #[] 0 b1.size (by decide) rfl
  have hk1 : (ys.drop k).length = ys.length - k := by simp
  have hk2 : (ys.take k).length = k := by simp; omega
  have rB := hB.below bW
  have hkc : k ≤ cb := Nat.le_trans hkl hcb
  have hrot : ∀ x ∈ [] ++ ys.drop k ++ ys.take k, I64 x := fun x hx => I64.of_mem hB.rng (by
    simp only [List.nil_append, List.mem_append] at hx
    rcases hx with h | h
    · exact List.mem_of_mem_drop h
    · exact List.mem_of_mem_take h)
  have hmem : ∀ x : Int, (ys.drop k ++ ys.take k).contains x = ys.contains x := fun x => by
    rw [Bool.eq_iff_iff]
    simp only [List.contains_iff_mem, List.mem_append]
    constructor
    · rintro (h | h)
      · exact List.mem_of_mem_drop h
      · exact List.mem_of_mem_take h
    · intro h
      rw [← List.take_append_drop k ys, List.mem_append] at h
      exact h.symm
  cases B
  case' none =>
    obtain ⟨e1, e2⟩ := hBs.none_nil
    have hd0 : Hid (ys.drop k = []) := Lib.hid (by simp [e1])
    have ht0 : Hid (ys.take k = []) := Lib.hid (by simp [e1])
    clear e1 e2
    go_region_law (first | (refine step_app rfl _ _ rfl w.heap.size _ rfl [] (by exact oW) _ _ _ rfl (ys.drop k) hk1.symm (by rw [hd0.out]; exact RI.nil _ _) (fun _ => hd0.out) (by exact bW.size) (by simp; omega) ?_; intro v1 W1 o1 bb1) | (refine step_app rfl _ _ rfl w.heap.size _ rfl ([] ++ ys.drop k) (by exact o1) _ _ _ rfl (ys.take k) hk2.symm (by rw [ht0.out]; exact RI.nil _ _) (fun _ => ht0.out) (by exact Nat.le_trans bW.size bb1.size) (by simp; omega) ?_; intro v2 W2 o2 bb2))
    clear hd0 ht0
  case' some a =>
    obtain ⟨blk, off, spot⟩ := a
    obtain rfl : spot = none := hBs.spot _ rfl
    have rd : RI (w2.alloc (.cells #[] 3)) (if cb = k then some { block := blk, off := off } else some { block := blk, off := off + k }) (ys.drop k) := by
      split
      · rw [show ys.drop k = [] from List.drop_eq_nil_of_le (by omega)]; exact RI.nil _ _
      · exact drop_RI rB k
    have hAn : (if cb = k then some (⟨blk, off, none⟩ : Addr) else some ⟨blk, off + k, none⟩) = none → ys.drop k = [] := fun e => by split at e <;> cases e
    have rt := take_RI hB k
    go_region_law (first | (refine step_app rfl _ _ rfl w.heap.size _ rfl [] (by exact oW) _ _ _ rfl (ys.drop k) hk1.symm (by exact rd.below (Below.drew (Below.refl _ _))) (by exact hAn) (by exact bW.size) (by simp; omega) ?_; intro v1 W1 o1 bb1) | (refine step_app rfl _ _ rfl w.heap.size _ rfl ([] ++ ys.drop k) (by exact o1) _ _ _ rfl (ys.take k) hk2.symm (by exact rt.below (bW.drew.trans bb1)) (fun e => by cases e) (by exact Nat.le_trans bW.size bb1.size) (by simp; omega) ?_; intro v2 W2 o2 bb2))
    clear rd rt hAn
    generalize (if cb = k then some (⟨blk, off, none⟩ : Addr) else some ⟨blk, off + k, none⟩) = Ad
  all_goals
    have bbW : Below w.heap.size w W2 := (bW.drew.trans bb1).trans bb2
    obtain ⟨O, co, rfl, hco, hO⟩ := own_RI o2 hrot (by simp; omega)
    clear o1 o2 bb1 bb2 hrot rB
    simp only [List.nil_append] at hco hO
    have hA2 := hA.below bbW
    have hB2 := hB.below bbW
    go_wp2_with fail
    refine (Of_any _ _ xs _ hA2).mono ?_
    rintro e W3 ⟨rfl, bb⟩
    have hs := blk_new W3 (.cells (setA 0) 27)
    have bb4 := bb.alloc bb.size (.cells (setA 0) 27)
    rw [setA_zero] at hs bb4
    have bb5 := below_setRow bb4 bb.size (setA (withL 0 xs))
    have hs2 := blk_setRow hs (cs' := setA (withL 0 xs))
    go_wp2_with (refine wpList_store_row rfl _ _ _ rfl _ _ rfl rfl _ _ hs (szSetA _) (by rw [setA_size]; rfl) (oneCell_setA _) ?_)
    clear hs bb4 bb
    generalize (W3.alloc _).setRow W3.heap.size (setA (withL 0 xs)) = W4 at *
    generalize W3.heap.size = g at *
    have hg := blk_lt hs2
    have hO4 := hO.below bb5
    have hB4 := hB2.below bb5
    have bb6 := bbW.trans (bb5.mono bbW.size)
    clear bb5 hO hB2 hA2
    have hlo : ys.length = (ys.drop k ++ ys.take k).length := by simp; omega
    generalize ys.drop k ++ ys.take k = os at *
    have hS : Sm (withL 0 xs) := withL_sm _ sm_zero
    generalize withL 0 xs = S at *
    have WB := fun N c W hW => With_any N _ c ys W (hB4.below (w' := W) hW)
    have WO := fun N W hW => With_any N O co os W (hO4.below (w' := W) hW)
    have XB := fun N c W hW => Without_any N _ c ys W (hB4.below (w' := W) hW)
    have XO := fun N W hW => Without_any N O co os W (hO4.below (w' := W) hW)
    have FB := fun c W hW => Of_any _ c ys W (hB4.below (w' := W) hW)
    have FO := fun W hW => Of_any O co os W (hO4.below (w' := W) hW)
    rw [← hlo] at WO XO FO
    have E1 := Lib.hid (turn1 hS ys os hmem)
    have E2 := Lib.hid (turn2 hS ys os hmem)
    have E3 := Lib.hid (turn3 hS ys)
    have E4 := Lib.hid (turn4 hS ys)
    have E5 := Lib.hid (turn5 ys os hmem)
    change Code.wp _ _ _ (Act.mk _ _) _
    refine wp_region_fresh (by kernel_rfl) (by kernel_rfl) ?_
    iterate 52 (first
      | go_big_quiet_skip
      | (go_big_quiet_want; first
          | (go_big_quiet_op; go_big_quiet_on)
          | (rename_i K hK; ((first
              | refine q_load _ _ rfl _ rfl _ _ _ _ (fun W hW => blk_below hW hs2 hg) Tryd.underlying27 rfl (szSetA _) (hK _ ?_)
              | refine q_call2 11 _ _ _ rfl (.agg (setA _)) rfl (.slice O _ _) rfl (by kernel_rfl) _ (fresh_class (WO _)) (hK _ ?_)
              | refine q_call2 11 _ _ _ rfl (.agg (setA _)) rfl (.slice _ _ _) rfl (by kernel_rfl) _ (fresh_class (WB _ _)) (hK _ ?_)
              | refine q_call2 12 _ _ _ rfl (.agg (setA _)) rfl (.slice O _ _) rfl (by kernel_rfl) _ (fresh_class (XO _)) (hK _ ?_)
              | refine q_call2 12 _ _ _ rfl (.agg (setA _)) rfl (.slice _ _ _) rfl (by kernel_rfl) _ (fresh_class (XB _ _)) (hK _ ?_)
              | refine q_call1 10 _ _ rfl (.slice O _ _) rfl (by kernel_rfl) _ (fresh_class FO) (hK _ ?_)
              | refine q_call1 10 _ _ rfl (.slice _ _ _) rfl (by kernel_rfl) _ (fresh_class (FB _)) (hK _ ?_)
              | refine q_call2 13 _ _ _ rfl (.agg (setA _)) rfl (.agg (setA _)) rfl (by kernel_rfl) _ (fresh_class (fun W _ => Less_any _ _ W)) (hK _ ?_)
              | refine q_call2 14 _ _ _ rfl (.agg (setA _)) rfl (.agg (setA _)) rfl (by kernel_rfl) _ (fresh_class (fun W _ => Or_any _ _ W)) (hK _ ?_)
              | refine q_pickT _ _ _ rfl rfl (.bool true) rfl (hK _ ?_)
              | refine q_sets_eq _ _ _ _ rfl rfl rfl (by with_reducible first | exact withL_sm _ hS | exact outL_sm _ hS | exact withL_sm _ (outL_sm _ hS) | exact outL_sm _ (withL_sm _ hS) | exact withL_sm _ sm_zero) (by with_reducible first | exact E1.out | exact E2.out | exact E3.out | exact E4.out | exact E5.out) (hK _ ?_)); clear hK K; simp only [Act.put, List.setIfInBounds_toArray, List.set_cons_zero, List.set_cons_succ]))))
    refine wpQuiet_nil ?_
    intro W hW
    have bW9 := bb6.trans (hW.mono bb6.size)
    clear WB WO XB XO FB FO E1 E2 E3 E4 E5
    go_wp2
    go_ret
    exact ⟨rfl, bW9⟩

end Go.Proofs.YtjichaeegheacaaDoor
