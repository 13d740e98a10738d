/-
  Law 15, BitsLaws: the walk.
-/
import Derived.Test.YtjichaeegheacaaDoorLawsR2
namespace Go.Proofs.YtjichaeegheacaaDoor
open Go Go.RowKit

set_option maxRecDepth 100000 in
set_option maxHeartbeats 4000000 in
theorem BitsLaws_any (A B C : Option Addr) (ca cb cc : Nat) (xs ys zs : List Int) (w : World) (hA : RI w A xs) (hB : RI w B ys) (hC : RI w C zs) (hT : Tab w) :
    Calls Tryd.prog 4 #[.slice A xs.length ca, .slice B ys.length cb, .slice C zs.length cc] w (Fresh w (.bool true)) := by
  have hla := hA.len
  have hlb := hB.len
  have hlc := hC.len
  go_enter Tryd.func4, Tryd.ntmps4
  go_wp2_with fail
  refine (awake15_any w hT).mono ?_
  rintro e w1 ⟨rfl, b1⟩
  by_cases h1 : ((xs.length : Int) + (ys.length : Int) + (zs.length : Int) > 3000)
  · have hd : decide (((xs.length : Int) + (ys.length : Int) + (zs.length : Int) > 3000)) = true := decide_eq_true h1
    go_wp2
    go_ret
    exact ⟨rfl, b1⟩
  have hd : decide (((xs.length : Int) + (ys.length : Int) + (zs.length : Int) > 3000)) = false := decide_eq_false h1
  go_wp2_with fail
  refine (Of_any _ _ xs _ (hA.below b1)).mono ?_
  rintro e w2 ⟨rfl, bb⟩
  have b2 := b1.trans (bb.mono b1.size)
  clear bb
  go_wp2_with fail
  refine (Of_any _ _ ys _ (hB.below b2)).mono ?_
  rintro e w3 ⟨rfl, bb⟩
  have b3 := b2.trans (bb.mono b2.size)
  clear bb
  go_wp2_with fail
  refine (Of_any _ _ zs _ (hC.below b3)).mono ?_
  rintro e w4 ⟨rfl, bb⟩
  have b4 := b3.trans (bb.mono b3.size)
  clear bb
  have three := three_laid w4 (setA 0) (setA (withL 0 xs)) (setA (withL 0 ys)) (setA (withL 0 zs)) 27 _ _ rfl rfl
  rw [setA_zero] at three
  obtain ⟨k1, k2, k3, g1, g2, g3, bb⟩ := three
  go_wp2_with (first | (refine wpList_store_row rfl _ _ _ rfl _ _ rfl rfl _ _ k1 (szSetA _) (by rw [setA_size]; rfl) (oneCell_setA _) ?_) | (refine wpList_store_row rfl _ _ _ rfl _ _ rfl rfl _ _ k2 (szSetA _) (by rw [setA_size]; rfl) (oneCell_setA _) ?_) | (refine wpList_store_row rfl _ _ _ rfl _ _ rfl rfl _ _ k3 (szSetA _) (by rw [setA_size]; rfl) (oneCell_setA _) ?_))
  clear k1 k2 k3
  have b5 := b4.trans (bb.mono b4.size)
  generalize ((World.setRow _ w4.heap.size (setA (withL 0 xs))).setRow (w4.heap.size + 1) (setA (withL 0 ys))).setRow (w4.heap.size + 1 + 1) (setA (withL 0 zs)) = W0 at *
  generalize w4.heap.size = g at *
  have F1 : ∀ W, Below W0.heap.size W0 W → W.heap[g]? = some (.cells (setA (withL 0 xs)) 27 (0, 0)) := fun W h => blk_below h g1 (blk_lt g1)
  have F2 : ∀ W, Below W0.heap.size W0 W → W.heap[g + 1]? = some (.cells (setA (withL 0 ys)) 27 (0, 0)) := fun W h => blk_below h g2 (blk_lt g2)
  have F3 : ∀ W, Below W0.heap.size W0 W → W.heap[g + 1 + 1]? = some (.cells (setA (withL 0 zs)) 27 (0, 0)) := fun W h => blk_below h g3 (blk_lt g3)
  have hA0 := hA.below b5
  have hB0 := hB.below b5
  have hT0 := hT.below b5
  clear g1 g2 g3 bb b1 b2 b3 b4 hA hB hC hT hd
  go_loopw [10, 11] (fun o r W => ∃ k : Nat, k ≤ 1027 ∧ o = .bool (oneN xs ys k) ∧ r = .int .i64 ((k : Int) - 1) ∧ Below W0.heap.size W0 W) (fun _ r _ => (1026 - intOf r).toNat)
  case atStart => exact ⟨0, Nat.zero_le _, rfl, rfl, Below.refl _ _⟩
  case round =>
    obtain ⟨k, hk, rfl, rfl, hW⟩ := hrel
    by_cases h1 : k < 1027
    · have HO := Lib.hid (oneN_succ xs ys k)
      have hn1 : ((k : Int) - 1) + 1 = (((k + 1 : Nat) : Int) - 1) := by omega
      have hd : decide (((k : Int) - 1) < 1026) = true := decide_eq_true (by omega)
      have hnI : I64 ((k : Int) - 1) := ⟨by omega, by omega⟩
      have q1 := fun W => Has_any (withL 0 xs) ((k : Int) - 1) W hnI
      have q2 := fun W => Has_any (withL 0 xs ||| withL 0 ys) ((k : Int) - 1) W hnI
      have q3 := fun W => Has_any (withL 0 xs &&& withL 0 ys) ((k : Int) - 1) W hnI
      have q4 := fun W => Has_any (lessN (withL 0 xs) (withL 0 ys)) ((k : Int) - 1) W hnI
      simp only [has_withL, has_or, has_and, has_less] at q1 q2 q3 q4
      have q5 := fun W h => has15_any A ca xs ((k : Int) - 1) W h hnI
      have q6 := fun W h => has15_any B cb ys ((k : Int) - 1) W h hnI
      generalize hn : (k : Int) - 1 = n at *
      cases hx : hasI xs n <;> cases hy : hasI ys n
      all_goals
        rw [hx, hy] at HO
        simp only [hx, hy, Bool.or_false, Bool.or_true, Bool.and_true, Bool.and_false, Bool.not_true, Bool.not_false] at q1 q2 q3 q4 q5 q6
        go_wp2_with fail
        refine (q5 _ (hA0.below hW)).mono ?_
        rintro e W' ⟨rfl, rfl⟩
        go_wp2_with fail
        refine (q6 _ (hB0.below hW)).mono ?_
        rintro e W' ⟨rfl, rfl⟩
        go_wp2_with (first | (refine wpList_load_row rfl _ _ rfl _ rfl _ _ _ _ (F1 _ hW) Tryd.underlying27 rfl (szSetA _) ?_) | (refine wpList_load_rowG rfl _ _ rfl _ rfl _ _ _ _ (F1 _ hW) Tryd.underlying27 rfl (szSetA _) ?_) | (refine wpList_load_rowG rfl _ _ rfl _ rfl _ _ _ _ (F2 _ hW) Tryd.underlying27 rfl (szSetA _) ?_))
        refine (q1 _).mono ?_
        rintro e W' ⟨rfl, hb⟩
        replace hW := hW.trans (hb.mono hW.size)
        clear hb
        go_wp2_with (first | (refine wpList_load_row rfl _ _ rfl _ rfl _ _ _ _ (F1 _ hW) Tryd.underlying27 rfl (szSetA _) ?_) | (refine wpList_load_rowG rfl _ _ rfl _ rfl _ _ _ _ (F1 _ hW) Tryd.underlying27 rfl (szSetA _) ?_) | (refine wpList_load_rowG rfl _ _ rfl _ rfl _ _ _ _ (F2 _ hW) Tryd.underlying27 rfl (szSetA _) ?_))
        refine (Or_any _ _ _).mono ?_
        rintro e W' ⟨rfl, hb⟩
        replace hW := hW.trans (hb.mono hW.size)
        clear hb
        go_wp2_with (first | (refine wpList_load_row rfl _ _ rfl _ rfl _ _ _ _ (F1 _ hW) Tryd.underlying27 rfl (szSetA _) ?_) | (refine wpList_load_rowG rfl _ _ rfl _ rfl _ _ _ _ (F1 _ hW) Tryd.underlying27 rfl (szSetA _) ?_) | (refine wpList_load_rowG rfl _ _ rfl _ rfl _ _ _ _ (F2 _ hW) Tryd.underlying27 rfl (szSetA _) ?_))
        refine (q2 _).mono ?_
        rintro e W' ⟨rfl, hb⟩
        replace hW := hW.trans (hb.mono hW.size)
        clear hb
        go_wp2_with (first | (refine wpList_load_row rfl _ _ rfl _ rfl _ _ _ _ (F1 _ hW) Tryd.underlying27 rfl (szSetA _) ?_) | (refine wpList_load_rowG rfl _ _ rfl _ rfl _ _ _ _ (F1 _ hW) Tryd.underlying27 rfl (szSetA _) ?_) | (refine wpList_load_rowG rfl _ _ rfl _ rfl _ _ _ _ (F2 _ hW) Tryd.underlying27 rfl (szSetA _) ?_))
        refine (And_any _ _ _).mono ?_
        rintro e W' ⟨rfl, hb⟩
        replace hW := hW.trans (hb.mono hW.size)
        clear hb
        go_wp2_with (first | (refine wpList_load_row rfl _ _ rfl _ rfl _ _ _ _ (F1 _ hW) Tryd.underlying27 rfl (szSetA _) ?_) | (refine wpList_load_rowG rfl _ _ rfl _ rfl _ _ _ _ (F1 _ hW) Tryd.underlying27 rfl (szSetA _) ?_) | (refine wpList_load_rowG rfl _ _ rfl _ rfl _ _ _ _ (F2 _ hW) Tryd.underlying27 rfl (szSetA _) ?_))
        refine (q3 _).mono ?_
        rintro e W' ⟨rfl, hb⟩
        replace hW := hW.trans (hb.mono hW.size)
        clear hb
        go_wp2_with (first | (refine wpList_load_row rfl _ _ rfl _ rfl _ _ _ _ (F1 _ hW) Tryd.underlying27 rfl (szSetA _) ?_) | (refine wpList_load_rowG rfl _ _ rfl _ rfl _ _ _ _ (F1 _ hW) Tryd.underlying27 rfl (szSetA _) ?_) | (refine wpList_load_rowG rfl _ _ rfl _ rfl _ _ _ _ (F2 _ hW) Tryd.underlying27 rfl (szSetA _) ?_))
        refine (Less_any _ _ _).mono ?_
        rintro e W' ⟨rfl, hb⟩
        replace hW := hW.trans (hb.mono hW.size)
        clear hb
        go_wp2_with (first | (refine wpList_load_row rfl _ _ rfl _ rfl _ _ _ _ (F1 _ hW) Tryd.underlying27 rfl (szSetA _) ?_) | (refine wpList_load_rowG rfl _ _ rfl _ rfl _ _ _ _ (F1 _ hW) Tryd.underlying27 rfl (szSetA _) ?_) | (refine wpList_load_rowG rfl _ _ rfl _ rfl _ _ _ _ (F2 _ hW) Tryd.underlying27 rfl (szSetA _) ?_))
        refine (q4 _).mono ?_
        rintro e W' ⟨rfl, hb⟩
        replace hW := hW.trans (hb.mono hW.size)
        clear hb
        cases ho : oneN xs ys k
        all_goals
          go_wp2
          exact ⟨⟨k + 1, by omega, by rw [HO.out, ho]; rfl, by congr 1; omega, hW⟩, by simp [intOf]; omega⟩
    · obtain rfl : k = 1027 := by omega
      rw [show (((1027 : Nat) : Int) - 1) = 1026 from rfl]
      have hd : decide ((1026 : Int) < 1026) = false := rfl
      rw [← oneN_all]
      generalize hbo' : decide (withL 0 xs = withL 0 ys) = bo
      have hbo := Lib.hid hbo'
      clear hbo'
      go_wp2_with (refine wpList_load_row rfl _ _ rfl _ rfl _ _ _ _ (F1 _ hW) Tryd.underlying27 rfl (szSetA _) ?_)
      refine (List_any (withL 0 xs) _ (hT0.below hW)).mono ?_
      rintro e W1 ⟨v, rfl, hown, hnil, hb⟩
      have hW1 := hW.trans (hb.mono hW.size)
      have hi64 : ∀ x ∈ upTo (withL 0 xs) 1024, I64 x := upTo_i64 (Nat.le_refl _)
      have hlen : (upTo (withL 0 xs) 1024).length ≤ 1024 := upTo_len _ _
      obtain ⟨L, lc, rfl, hlc2, hL⟩ := own_RI hown hi64 (by omega)
      have hhas : ∀ x ∈ upTo (withL 0 xs) 1024, hasI xs x = true := upTo_has xs
      have hris := upTo_rising (withL 0 xs) 1024
      have hA1 := hA0.below hW1
      clear hb hown hW
      go_wp2
      clear hd
      generalize hl : upTo (withL 0 xs) 1024 = l at *
      go_loopw [15] (fun r W => ∃ m : Nat, m ≤ l.length ∧ r = .int .i64 (m : Int) ∧ Below W1.heap.size W1 W) (fun r _ => l.length - (intOf r).toNat)
      case atStart => exact ⟨0, Nat.zero_le _, rfl, Below.refl _ _⟩
      case round =>
        obtain ⟨m, hm, rfl, hWm⟩ := hrel
        by_cases h2 : m < l.length
        · have hd : decide ((m : Int) < (l.length : Int)) = true := decide_eq_true (by omega)
          obtain ⟨b, off, rfl, hbl, hcm, hm64⟩ := (hL.below hWm).at_ h2
          have q := fun W h => has15_any A ca xs (gI l m) W h hm64
          rw [hhas _ (gI_mem h2)] at q
          have hA2 := hA1.below hWm
          cases m with
          | zero =>
            simp only [Nat.add_zero] at hcm
            go_wp2
            go_quiet (exact Calls.quiet_of_same (q _ (hA2.below (below_drewN _))))
            go_wp2
            go_roundw
            case rel => exact ⟨0 + 1, by omega, by go_num, hWm.trans ((below_drewN _).mono hWm.size)⟩
            case measure => simp [intOf]; omega
          | succ j =>
            obtain ⟨b', off', e', hbl', hcm', hm64'⟩ := (hL.below hWm).at_ (show j < l.length by omega)
            cases e'
            have hr := hris j h2
            have hd3 : decide (gI l j ≥ gI l (j + 1)) = false := decide_eq_false (by omega)
            have hd4 : decide (((j + 1 : Nat) : Int) > 0) = true := decide_eq_true (by omega)
            go_wp2
            go_quiet (exact Calls.quiet_of_same (q _ (hA2.below (below_drewN _))))
            go_wp2
            go_roundw
            case rel => exact ⟨j + 1 + 1, by omega, by go_num, hWm.trans ((below_drewN _).mono hWm.size)⟩
            case measure => simp [intOf]; omega
        · obtain rfl : m = l.length := by omega
          have hd : decide ((l.length : Int) < (l.length : Int)) = false := by simp
          go_wp2
          have HW : ∀ W, Below wr.heap.size wr W → Below W0.heap.size W0 W := fun W h => hW1.trans ((hWm.trans (h.mono hWm.size)).mono hW1.size)
          have hS : Sm (withL 0 xs) := withL_sm _ sm_zero
          have hSt : Sm (withL 0 ys) := withL_sm _ sm_zero
          have hSu : Sm (withL 0 zs) := withL_sm _ sm_zero
          generalize withL 0 xs = S at *
          generalize withL 0 ys = T at *
          generalize withL 0 zs = U at *
          have hLr := hL.below hWm
          have hTr := hT0.below (HW _ (Below.refl _ _))
          by_cases hl0 : l = []
          case' pos => refine laws_20_nil hS hSt hbo hl hLr (by rw [hl0]; rfl) (F1 _ (HW _ (Below.refl _ _))) (F2 _ (HW _ (Below.refl _ _))) ?_
          case' neg => refine laws_20_some hS hSt hbo hl hLr hTr hl0 (F1 _ (HW _ (Below.refl _ _))) (F2 _ (HW _ (Below.refl _ _))) ?_
          all_goals
            intros
            rename_i W' hb
            have HW2 := HW W' hb
            clear hl0 hb
            dsimp only
            go_wp2
            refine laws_22 hS hSt hSu (F1 _ HW2) (F2 _ HW2) (F3 _ HW2) ?_
            intros
            rename_i W9 hb
            have b9 := b5.trans ((HW2.trans (hb.mono HW2.size)).mono b5.size)
            clear hb
            dsimp only
            go_wp2
            go_ret
            exact ⟨rfl, b9⟩

end Go.Proofs.YtjichaeegheacaaDoor
