/-
  Tells
-/
import Derived.Test.YtjichaeegheacaaGreatDoorFT21

/-
  Law 10, FlowTells: the walk.
-/
namespace Go.Proofs.YtjichaeegheacaaGreatDoor
open Go Go.RowKit

set_option maxRecDepth 100000 in
set_option maxHeartbeats 8000000 in
theorem FlowTells_any (F : FnV) (b : Int) (B C : Option Addr) (cb cc : Nat) (frm nt : List Int) (w : World) (hF : RFn w F) (hfr : RI w B frm) (hnt : RI w C nt) (hT : Tab w) :
    Calls Tryz.prog 3 #[F.val, .int .i64 b, .slice B frm.length cb, .slice C nt.length cc] w (Fresh w (.bool true)) := by
  obtain ⟨par, Ap, cp, bs, A, c⟩ := F
  simp only [FnV.val, FnV.pv]
  have hb0 := (Below.refl w.heap.size w).alloc (Nat.le_refl _) (.cells #[.slice Ap par.length cp, .slice A bs.length c] 25)
  have hs0 := blk_new w (.cells #[.slice Ap par.length cp, .slice A bs.length c] 25)
  have hlf := hfr.len
  have hln := hnt.len
  go_enter Tryz.func3, Tryz.ntmps3
  go_wp2_with (refine wpList_load_row rfl _ _ rfl _ rfl _ _ _ _ hs0 Tryz.underlying25 rfl (by kernel_rfl) ?_)
  refine (FuncOf_sz ⟨par, Ap, cp, bs, A, c⟩ 500 _ (hF.below hb0) (by omega)).mono ?_
  rintro e W1 ⟨n, rfl, n0, n1, hsm, hb1⟩
  have hs1 := blk_below hb1 hs0 (blk_lt hs0)
  have hB1 := hb0.trans (hb1.mono hb0.size)
  clear hb1 hs0 hb0
  by_cases hbig : n + frm.length + nt.length > 500
  · have hd : decide (n + frm.length + nt.length > 500) = true := decide_eq_true hbig
    go_wp2_with fail
    refine (awake10_any _).mono ?_
    rintro e W2 ⟨rfl, hb2⟩
    go_wp2
    go_ret
    exact ⟨rfl, hB1.trans (hb2.mono hB1.size)⟩
  · have hd : decide (n + frm.length + nt.length > 500) = false := decide_eq_false hbig
    have hsf := hsm (by omega)
    clear hsm
    go_wp2_with (refine wpList_load_row rfl _ _ rfl _ rfl _ _ _ _ hs1 Tryz.underlying25 rfl (by kernel_rfl) ?_)
    refine (LentFunc_any ⟨par, Ap, cp, bs, A, c⟩ _ (hF.below hB1) hsf).mono ?_
    rintro e W2 ⟨⟨par2, Ap2, cp2, bs2, A2, c2⟩, he, hdat, hLF, hb2⟩
    simp only [FnV.val, FnV.pv] at he
    subst he
    have hs2 := blk_below hb2 hs1 (blk_lt hs1)
    have hB2 := hB1.trans (hb2.mono hB1.size)
    clear hb2 hs1 hB1
    go_wp2_with fail
    refine (LentInts_any B cb frm _ (hfr.below hB2) (by omega)).mono ?_
    rintro e W3 ⟨B2, cb2, rfl, hLB, hb3⟩
    have hs3 := blk_below hb3 hs2 (blk_lt hs2)
    have hB3 := hB2.trans (hb3.mono hB2.size)
    have hLF3 := hLF.below hb3
    have hB2s := hB2.size
    clear hb3 hs2 hB2 hLF
    go_wp2_with fail
    refine (LentInts_any C cc nt _ (hnt.below hB3) (by omega)).mono ?_
    rintro e W4 ⟨C2, cc2, rfl, hLC, hb4⟩
    have hs4 := blk_below hb4 hs3 (blk_lt hs3)
    have hB4 := hB3.trans (hb4.mono hB3.size)
    have hLBs : w.heap.size ≤ W2.heap.size := hB2s
    have hLF4 := hLF3.below hb4
    have hLB4 := hLB.below hb4
    clear hb4 hs3 hB3 hLF3 hLB
    go_wp2
    obtain ⟨w5, hw5⟩ : ∃ w5, w5 = W4.alloc (.cells #[.slice Ap2 par2.length cp2, .slice A2 bs2.length c2] 25) := ⟨_, rfl⟩
    have hb5 := (Below.refl W4.heap.size W4).alloc (Nat.le_refl _) (.cells #[.slice Ap2 par2.length cp2, .slice A2 bs2.length c2] 25)
    have hn5 := blk_new W4 (.cells #[.slice Ap2 par2.length cp2, .slice A2 bs2.length c2] 25)
    rw [← hw5] at hb5 hn5 ⊢
    clear hw5
    have hs5 := blk_below hb5 hs4 (blk_lt hs4)
    have hB5 := hB4.trans (hb5.mono hB4.size)
    have hLF5 := hLF4.below hb5
    have hLB5 := hLB4.below hb5
    have hLC5 := hLC.below hb5
    have hF5 := hF.below hB5
    have hG5 := hLF5.fn
    have hST : SameT (blks bs2) (blks bs) := sameT_of_dat (congrArg Prod.snd hdat)
    have hl500 : bs.length ≤ 500 := hsf.bs
    have hl5002 : bs2.length ≤ 500 := by have := hST.1; rw [blks_len, blks_len] at this; omega
    clear hb5 hs4 hB4 hLF4 hLB4 hLC
    obtain ⟨cl, hcl1⟩ : ∃ cl, closedB (blks bs) = cl := ⟨_, rfl⟩
    obtain ⟨ese, he1⟩ : ∃ es, (someE (blks bs) fun _ => true) = es := ⟨_, rfl⟩
    obtain ⟨esi, hi1⟩ : ∃ es, (someE (blks bs) fun x => decide (x.t = b)) = es := ⟨_, rfl⟩
    obtain ⟨esf, hf1⟩ : ∃ es, (someE (blks bs) fun x => decide (x.f = b)) = es := ⟨_, rfl⟩
    obtain ⟨esc, hc1⟩ : ∃ es, someE (blks bs) (critB (edgesOf (blks bs))) = es := ⟨_, rfl⟩
    have hcl2 := (sameT_closed hST).trans hcl1
    have he2 := (sameT_some hST _).trans he1
    have hi2 := (sameT_some hST _).trans hi1
    have hf2 := (sameT_some hST _).trans hf1
    have hc2 := (crit_dat hST).trans hc1
    have hcc : (cl == cl) = true := by simp
    have hdr : Below w5.heap.size w5 w5.drew := (Below.refl _ _).drew
    change Code.wp _ _ _ (Act.mk _ _) _
    refine wp_region_tree (S := fun W => ∃ p : Regrown, W = Sort.grow (redrawn w5 p.d) p.os) (.look [0, 2] (.one 1 (.one 3 (.look [4, 5, 6, 8] (.one 7 (.one 9 (.one 10 (.look [11, 12, 13, 14, 16, 17] (.one 15 (.one 18 (.one 19 (.look [20, 21, 22, 23, 25, 26] (.one 24 (.one 27 (.one 28 (.look [29, 30, 31, 33] (.one 32 (.one 34 (.one 35 (.look [36, 37] .done)))))))))))))))))))) (by kernel_rfl) (by kernel_rfl) (regrown_of_below hdr) (fun d _ _ _ _ h => by cases d <;> exact h) ?_
    refine tree_look ?_
    dsimp only [pickL, nthO]
    repeat (first
      | go_big_quiet_skip
      | (go_big_quiet_want; first
          | (go_big_quiet_op; go_big_quiet_on)
          | ((first
              | refine q_go ⟨_, ⟨0, #[]⟩, rfl⟩ (fun K' hk => q_load _ _ rfl _ rfl _ _ _ _ (fun W hW => blk_below (below_of_grow hW) hs5 (blk_lt hs5)) Tryz.underlying25 rfl (by kernel_rfl) hk) ?_
              | refine q_go ⟨_, ⟨0, #[]⟩, rfl⟩ (fun K' hk => q_load _ _ rfl _ rfl _ _ _ _ (fun W hW => blk_below (below_of_grow hW) hn5 (blk_lt hn5)) Tryz.underlying25 rfl (by kernel_rfl) hk) ?_); go_big_quiet_op; go_big_quiet_on)))
    refine wpQuiet_nil ?_
    refine tree_one rfl ?_
    go_wp2_with fail
    refine (tClosed ⟨par2, Ap2, cp2, bs2, A2, c2⟩ _ (hG5.below hdr) hcl2).mono ?_
    rintro e X5 ⟨rfl, hbX5⟩
    have hX5 := hdr.trans (hbX5.mono hdr.size)
    clear hbX5 
    go_wp2
    refine ⟨regrown_of_below hX5, ?_⟩
    refine tree_one rfl ?_
    go_wp2_with fail
    refine (tClosed10 ⟨par, Ap, cp, bs, A, c⟩ _ (hF5.below hX5) hl500 hcl1).mono ?_
    rintro e X6 ⟨rfl, hbX6⟩
    have hX6 := hX5.trans (hbX6.mono hX5.size)
    clear hbX6 hX5
    go_wp2
    refine ⟨regrown_of_below hX6, ?_⟩
    refine tree_look ?_
    dsimp only [pickL, nthO]
    repeat (first
      | go_big_quiet_skip
      | (go_big_quiet_want; first
          | (go_big_quiet_op; go_big_quiet_on)
          | ((first
              | refine q_go ⟨_, ⟨0, #[]⟩, rfl⟩ (fun K' hk => q_load _ _ rfl _ rfl _ _ _ _ (fun W hW => blk_below (below_of_grow hW) hs5 (blk_lt hs5)) Tryz.underlying25 rfl (by kernel_rfl) hk) ?_
              | refine q_go ⟨_, ⟨0, #[]⟩, rfl⟩ (fun K' hk => q_load _ _ rfl _ rfl _ _ _ _ (fun W hW => blk_below (below_of_grow hW) hn5 (blk_lt hn5)) Tryz.underlying25 rfl (by kernel_rfl) hk) ?_); go_big_quiet_op; go_big_quiet_on)))
    refine wpQuiet_nil ?_
    refine tree_one rfl ?_
    go_wp2_with fail
    refine (tEdges ⟨par2, Ap2, cp2, bs2, A2, c2⟩ _ (hG5.below hX6) hl5002 he2).mono ?_
    rintro e X7 ⟨E1, ce1, rfl, hE1, hbX7⟩
    have hX7 := hX6.trans (hbX7.mono hX6.size)
    clear hbX7 hX6
    go_wp2
    refine ⟨regrown_of_below hX7, ?_⟩
    refine tree_one rfl ?_
    go_wp2_with fail
    refine (tEdges10 ⟨par, Ap, cp, bs, A, c⟩ _ (hF5.below hX7) hl500 he1).mono ?_
    rintro e X8 ⟨E2, ce2, rfl, hE2, hbX8⟩
    have hX8 := hX7.trans (hbX8.mono hX7.size)
    have hE1 := hE1.below hbX8
    clear hbX8 hX7
    go_wp2
    refine ⟨regrown_of_below hX8, ?_⟩
    refine tree_one rfl ?_
    go_wp2_with fail
    refine (same10_any E1 E2 ce1 ce2 _ _ hE1 hE2).mono ?_
    rintro e X9 ⟨rfl, hbX9⟩
    have hX9 := hX8.trans (hbX9.mono hX8.size)
    clear hE1 hE2
    clear hbX9 hX8
    go_wp2
    refine ⟨regrown_of_below hX9, ?_⟩
    refine tree_look ?_
    dsimp only [pickL, nthO]
    repeat (first
      | go_big_quiet_skip
      | (go_big_quiet_want; first
          | (go_big_quiet_op; go_big_quiet_on)
          | ((first
              | refine q_go ⟨_, ⟨0, #[]⟩, rfl⟩ (fun K' hk => q_load _ _ rfl _ rfl _ _ _ _ (fun W hW => blk_below (below_of_grow hW) hs5 (blk_lt hs5)) Tryz.underlying25 rfl (by kernel_rfl) hk) ?_
              | refine q_go ⟨_, ⟨0, #[]⟩, rfl⟩ (fun K' hk => q_load _ _ rfl _ rfl _ _ _ _ (fun W hW => blk_below (below_of_grow hW) hn5 (blk_lt hn5)) Tryz.underlying25 rfl (by kernel_rfl) hk) ?_); go_big_quiet_op; go_big_quiet_on)))
    refine wpQuiet_nil ?_
    refine tree_one rfl ?_
    go_wp2_with fail
    refine (tInto ⟨par2, Ap2, cp2, bs2, A2, c2⟩ _ (hG5.below hX9) hl5002 b hi2).mono ?_
    rintro e X10 ⟨E1, ce1, rfl, hE1, hbX10⟩
    have hX10 := hX9.trans (hbX10.mono hX9.size)
    clear hbX10 hX9
    go_wp2
    refine ⟨regrown_of_below hX10, ?_⟩
    refine tree_one rfl ?_
    go_wp2_with fail
    refine (tInto10 ⟨par, Ap, cp, bs, A, c⟩ _ (hF5.below hX10) hl500 b hi1).mono ?_
    rintro e X11 ⟨E2, ce2, rfl, hE2, hbX11⟩
    have hX11 := hX10.trans (hbX11.mono hX10.size)
    have hE1 := hE1.below hbX11
    clear hbX11 hX10
    go_wp2
    refine ⟨regrown_of_below hX11, ?_⟩
    refine tree_one rfl ?_
    go_wp2_with fail
    refine (same10_any E1 E2 ce1 ce2 _ _ hE1 hE2).mono ?_
    rintro e X12 ⟨rfl, hbX12⟩
    have hX12 := hX11.trans (hbX12.mono hX11.size)
    clear hE1 hE2
    clear hbX12 hX11
    go_wp2
    refine ⟨regrown_of_below hX12, ?_⟩
    refine tree_look ?_
    dsimp only [pickL, nthO]
    repeat (first
      | go_big_quiet_skip
      | (go_big_quiet_want; first
          | (go_big_quiet_op; go_big_quiet_on)
          | ((first
              | refine q_go ⟨_, ⟨0, #[]⟩, rfl⟩ (fun K' hk => q_load _ _ rfl _ rfl _ _ _ _ (fun W hW => blk_below (below_of_grow hW) hs5 (blk_lt hs5)) Tryz.underlying25 rfl (by kernel_rfl) hk) ?_
              | refine q_go ⟨_, ⟨0, #[]⟩, rfl⟩ (fun K' hk => q_load _ _ rfl _ rfl _ _ _ _ (fun W hW => blk_below (below_of_grow hW) hn5 (blk_lt hn5)) Tryz.underlying25 rfl (by kernel_rfl) hk) ?_); go_big_quiet_op; go_big_quiet_on)))
    refine wpQuiet_nil ?_
    refine tree_one rfl ?_
    go_wp2_with fail
    refine (tFrom ⟨par2, Ap2, cp2, bs2, A2, c2⟩ _ (hG5.below hX12) hl5002 b hf2).mono ?_
    rintro e X13 ⟨E1, ce1, rfl, hE1, hbX13⟩
    have hX13 := hX12.trans (hbX13.mono hX12.size)
    clear hbX13 hX12
    go_wp2
    refine ⟨regrown_of_below hX13, ?_⟩
    refine tree_one rfl ?_
    go_wp2_with fail
    refine (tFrom10 ⟨par, Ap, cp, bs, A, c⟩ _ (hF5.below hX13) hl500 b hf1).mono ?_
    rintro e X14 ⟨E2, ce2, rfl, hE2, hbX14⟩
    have hX14 := hX13.trans (hbX14.mono hX13.size)
    have hE1 := hE1.below hbX14
    clear hbX14 hX13
    go_wp2
    refine ⟨regrown_of_below hX14, ?_⟩
    refine tree_one rfl ?_
    go_wp2_with fail
    refine (same10_any E1 E2 ce1 ce2 _ _ hE1 hE2).mono ?_
    rintro e X15 ⟨rfl, hbX15⟩
    have hX15 := hX14.trans (hbX15.mono hX14.size)
    clear hE1 hE2
    clear hbX15 hX14
    go_wp2
    refine ⟨regrown_of_below hX15, ?_⟩
    refine tree_look ?_
    dsimp only [pickL, nthO]
    repeat (first
      | go_big_quiet_skip
      | (go_big_quiet_want; first
          | (go_big_quiet_op; go_big_quiet_on)
          | ((first
              | refine q_go ⟨_, ⟨0, #[]⟩, rfl⟩ (fun K' hk => q_load _ _ rfl _ rfl _ _ _ _ (fun W hW => blk_below (below_of_grow hW) hs5 (blk_lt hs5)) Tryz.underlying25 rfl (by kernel_rfl) hk) ?_
              | refine q_go ⟨_, ⟨0, #[]⟩, rfl⟩ (fun K' hk => q_load _ _ rfl _ rfl _ _ _ _ (fun W hW => blk_below (below_of_grow hW) hn5 (blk_lt hn5)) Tryz.underlying25 rfl (by kernel_rfl) hk) ?_); go_big_quiet_op; go_big_quiet_on)))
    refine wpQuiet_nil ?_
    refine tree_one rfl ?_
    go_wp2_with fail
    refine (tCrit ⟨par2, Ap2, cp2, bs2, A2, c2⟩ _ (hG5.below hX15) hl5002 hc2).mono ?_
    rintro e X16 ⟨E1, ce1, rfl, hE1, hbX16⟩
    have hX16 := hX15.trans (hbX16.mono hX15.size)
    clear hbX16 hX15
    go_wp2
    refine ⟨regrown_of_below hX16, ?_⟩
    refine tree_one rfl ?_
    go_wp2_with fail
    refine (tCrit10 ⟨par, Ap, cp, bs, A, c⟩ _ (hF5.below hX16) hl500 hc1).mono ?_
    rintro e X17 ⟨E2, ce2, rfl, hE2, hbX17⟩
    have hX17 := hX16.trans (hbX17.mono hX16.size)
    have hE1 := hE1.below hbX17
    clear hbX17 hX16
    go_wp2
    refine ⟨regrown_of_below hX17, ?_⟩
    refine tree_one rfl ?_
    go_wp2_with fail
    refine (same10_any E1 E2 ce1 ce2 _ _ hE1 hE2).mono ?_
    rintro e X18 ⟨rfl, hbX18⟩
    have hX18 := hX17.trans (hbX18.mono hX17.size)
    clear hE1 hE2
    clear hbX18 hX17
    go_wp2
    refine ⟨regrown_of_below hX18, ?_⟩
    refine tree_look ?_
    dsimp only [pickL, nthO]
    repeat (first
      | go_big_quiet_skip
      | (go_big_quiet_want; first
          | (go_big_quiet_op; go_big_quiet_on)
          | ((first
              | refine q_go ⟨_, ⟨0, #[]⟩, rfl⟩ (fun K' hk => q_load _ _ rfl _ rfl _ _ _ _ (fun W hW => blk_below (below_of_grow hW) hs5 (blk_lt hs5)) Tryz.underlying25 rfl (by kernel_rfl) hk) ?_
              | refine q_go ⟨_, ⟨0, #[]⟩, rfl⟩ (fun K' hk => q_load _ _ rfl _ rfl _ _ _ _ (fun W hW => blk_below (below_of_grow hW) hn5 (blk_lt hn5)) Tryz.underlying25 rfl (by kernel_rfl) hk) ?_); go_big_quiet_op; go_big_quiet_on)))
    refine wpQuiet_nil ?_
    refine tree_done ?_
    have hs6 := blk_below hX18 hs5 (blk_lt hs5)
    have hn6 := blk_below hX18 hn5 (blk_lt hn5)
    have hB6 := hB5.trans (hX18.mono hB5.size)
    have hLF6 := hLF5.below hX18
    have hLB6 := hLB5.below hX18
    have hLC6 := hLC5.below hX18
    have hF6 := hF.below hB6
    have hG6 := hLF6.fn
    have hw5l : w.heap.size ≤ w5.heap.size := hB5.size
    have hx56 : w5.heap.size ≤ X18.heap.size := hX18.size
    have hOx := OwnS.of_lent hLB5
    have hxlt : ∀ b, (⟨B2, frm.length, cb2⟩ : SV).bk = some b → w.heap.size ≤ b ∧ b < w5.heap.size := fun b hb => ⟨Nat.le_trans (by have := hLBs; omega) (hOx.low b hb), hOx.ow.lt hb⟩
    have hdr : Below X18.heap.size X18 X18.drew := (Below.refl _ _).drew
    clear hX18 hs5 hn5 hB5 hLF5 hLC5 hF5 hG5 hLB5 he1 he2 hi1 hi2 hf1 hf2 hc1 hc2 hcc hcl1 hcl2 hOx
    go_wp2
    change Code.wp _ _ _ (Act.mk _ _) _
    refine wp_region_tree (S := fun W => ∃ p : Regrown, W = Sort.grow (redrawn X18 p.d) p.os) (.look [0, 2] (.one 1 (.one 3 (.look [4, 5] .done)))) (by kernel_rfl) (by kernel_rfl) (regrown_of_below hdr) (fun d _ _ _ _ h => by cases d <;> exact h) ?_
    refine tree_look ?_
    dsimp only [pickL, nthO]
    repeat (first
      | go_big_quiet_skip
      | (go_big_quiet_want; first
          | (go_big_quiet_op; go_big_quiet_on)
          | ((first
              | refine q_go ⟨_, ⟨0, #[]⟩, rfl⟩ (fun K' hk => q_load _ _ rfl _ rfl _ _ _ _ (fun W hW => blk_below (below_of_grow hW) hs6 (blk_lt hs6)) Tryz.underlying25 rfl (by kernel_rfl) hk) ?_
              | refine q_go ⟨_, ⟨0, #[]⟩, rfl⟩ (fun K' hk => q_load _ _ rfl _ rfl _ _ _ _ (fun W hW => blk_below (below_of_grow hW) hn6 (blk_lt hn6)) Tryz.underlying25 rfl (by kernel_rfl) hk) ?_); go_big_quiet_op; go_big_quiet_on)))
    refine wpQuiet_nil ?_
    refine tree_one rfl ?_
    go_wp2_with fail
    refine (tOrder ⟨par2, Ap2, cp2, bs2, A2, c2⟩ _ (hG6.below hdr)).mono ?_
    rintro e Y1 ⟨⟨oA, on, oc⟩, lo, hlo, hlo2, rfl, hO, hbY1⟩
    have hY1 := hdr.trans (hbY1.mono hdr.size)
    have hon := hO.n
    simp only at hon
    subst hon
    clear hbY1
    go_wp2
    refine ⟨regrown_of_below hY1, ?_⟩
    refine tree_one rfl ?_
    go_wp2_with fail
    refine (tOrder ⟨par2, Ap2, cp2, bs2, A2, c2⟩ _ (hG6.below hY1)).mono ?_
    rintro e Y2 ⟨⟨pA, pn, pc⟩, lp, hlp, hlp2, rfl, hP, hbY2⟩
    have hY2 := hY1.trans (hbY2.mono hY1.size)
    have hpn := hP.n
    simp only at hpn
    subst hpn
    have hO2 := hO.below hbY2
    have hlto : ∀ b, (⟨oA, lo.length, oc⟩ : SV).bk = some b → w5.heap.size ≤ b ∧ b < Y1.heap.size := fun b hb => ⟨Nat.le_trans hx56 (Nat.le_trans hdr.size (hO.low b hb)), hO.ow.lt hb⟩
    have hltp : ∀ b, (⟨pA, lp.length, pc⟩ : SV).bk = some b → Y1.heap.size ≤ b ∧ b < Y2.heap.size := fun b hb => ⟨hP.low b hb, hP.ow.lt hb⟩
    have hs12 : Y1.heap.size ≤ Y2.heap.size := hbY2.size
    have hs51 : w5.heap.size ≤ Y1.heap.size := Nat.le_trans hx56 hY1.size
    clear hbY2 hO
    go_wp2
    refine ⟨regrown_of_below hY2, ?_⟩
    refine tree_look ?_
    dsimp only [pickL, nthO]
    repeat (first
      | go_big_quiet_skip
      | (go_big_quiet_want; first
          | (go_big_quiet_op; go_big_quiet_on)
          | ((first
              | refine q_go ⟨_, ⟨0, #[]⟩, rfl⟩ (fun K' hk => q_load _ _ rfl _ rfl _ _ _ _ (fun W hW => blk_below (below_of_grow hW) hs6 (blk_lt hs6)) Tryz.underlying25 rfl (by kernel_rfl) hk) ?_
              | refine q_go ⟨_, ⟨0, #[]⟩, rfl⟩ (fun K' hk => q_load _ _ rfl _ rfl _ _ _ _ (fun W hW => blk_below (below_of_grow hW) hn6 (blk_lt hn6)) Tryz.underlying25 rfl (by kernel_rfl) hk) ?_); go_big_quiet_op; go_big_quiet_on)))
    refine wpQuiet_nil ?_
    refine tree_done ?_
    have hs7 := blk_below hY2 hs6 (blk_lt hs6)
    have hn7 := blk_below hY2 hn6 (blk_lt hn6)
    have hB7 := hB6.trans (hY2.mono hB6.size)
    have hLF7 := hLF6.below hY2
    have hLB7 := hLB6.below hY2
    have hLC7 := hLC6.below hY2
    clear hY1 hY2 hdr hs6 hn6 hB6 hLF6 hLB6 hLC6 hF6 hG6 hx56
    go_wp2_with (refine wpList_load_row rfl _ _ rfl _ rfl _ _ _ _ hn7 Tryz.underlying25 rfl (by kernel_rfl) ?_)
    refine (tReached ⟨par2, Ap2, cp2, bs2, A2, c2⟩ _ hLF7.fn B2 C2 cb2 cc2 frm nt (hT.below hB7) hLB7.ri hLC7.ri).mono ?_
    rintro e Y3 ⟨⟨rA, rn, rc⟩, lr, hlr, hlr2, rfl, hR, hbY3⟩
    have hrn := hR.n
    simp only at hrn
    subst hrn
    have hs8 := blk_below hbY3 hs7 (blk_lt hs7)
    have hn8 := blk_below hbY3 hn7 (blk_lt hn7)
    have hB8 := hB7.trans (hbY3.mono hB7.size)
    have hLF8 := hLF7.below hbY3
    have hLB8 := hLB7.below hbY3
    have hLC8 := hLC7.below hbY3
    have hO8 := hO2.below hbY3
    have hP8 := hP.below hbY3
    clear hs7 hn7 hB7 hLF7 hLB7 hLC7 hO2 hP hbY3
    go_wp2_with (refine wpList_load_rowG rfl _ _ rfl _ rfl _ _ _ _ hs8 Tryz.underlying25 rfl (by kernel_rfl) ?_)
    refine (tOrder10 ⟨par, Ap, cp, bs, A, c⟩ _ (hF.below hB8) hl500).mono ?_
    rintro e Y4 ⟨lA, lc, l10, hl10, rfl, hr10, hbY4⟩
    obtain rfl := hlo.unique hST hl10
    have hs9 := blk_below hbY4 hs8 (blk_lt hs8)
    have hn9 := blk_below hbY4 hn8 (blk_lt hn8)
    have hB9 := hB8.trans (hbY4.mono hB8.size)
    have hLF9 := hLF8.below hbY4
    have hLB9 := hLB8.below hbY4
    have hLC9 := hLC8.below hbY4
    have hO9 := hO8.below hbY4
    have hP9 := hP8.below hbY4
    have hR9 := hR.below hbY4
    clear hs8 hn8 hB8 hLF8 hLB8 hLC8 hO8 hP8 hbY4
    go_wp2_with fail
    have q5 := SameInts_any oA lA oc lc lo lo _ hO9.ri hr10
    rw [show decide (lo = lo) = true from decide_eq_true rfl] at q5
    refine q5.mono ?_
    rintro e Y5 ⟨rfl, hbY5⟩
    clear q5 hr10
    have hs10 := blk_below hbY5 hs9 (blk_lt hs9)
    have hn10 := blk_below hbY5 hn9 (blk_lt hn9)
    have hB10 := hB9.trans (hbY5.mono hB9.size)
    have hLF10 := hLF9.below hbY5
    have hLB10 := hLB9.below hbY5
    have hLC10 := hLC9.below hbY5
    have hO10 := hO9.below hbY5
    have hP10 := hP9.below hbY5
    have hR10 := hR9.below hbY5
    clear hs9 hn9 hB9 hLF9 hLB9 hLC9 hO9 hP9 hR9 hbY5
    go_wp2_with (refine wpList_load_rowG rfl _ _ rfl _ rfl _ _ _ _ hs10 Tryz.underlying25 rfl (by kernel_rfl) ?_)
    refine (tReached10 ⟨par, Ap, cp, bs, A, c⟩ _ (hF.below hB10) hl500 B C cb cc frm nt (hfr.below hB10) (hnt.below hB10)).mono ?_
    rintro e Y6 ⟨mA, mc, m10, hm10, rfl, hm11, hbY6⟩
    obtain rfl := hlr.unique hST hm10
    have hs11 := blk_below hbY6 hs10 (blk_lt hs10)
    have hn11 := blk_below hbY6 hn10 (blk_lt hn10)
    have hB11 := hB10.trans (hbY6.mono hB10.size)
    have hLF11 := hLF10.below hbY6
    have hLB11 := hLB10.below hbY6
    have hLC11 := hLC10.below hbY6
    have hO11 := hO10.below hbY6
    have hP11 := hP10.below hbY6
    have hR11 := hR10.below hbY6
    clear hs10 hn10 hB10 hLF10 hLB10 hLC10 hO10 hP10 hR10 hbY6
    go_wp2_with fail
    have q5 := SameInts_any rA mA rc mc lr lr _ hR11.ri hm11
    rw [show decide (lr = lr) = true from decide_eq_true rfl] at q5
    refine q5.mono ?_
    rintro e Y7 ⟨rfl, hbY7⟩
    clear q5 hm11
    have hs12' := blk_below hbY7 hs11 (blk_lt hs11)
    have hn12 := blk_below hbY7 hn11 (blk_lt hn11)
    have hB12 := hB11.trans (hbY7.mono hB11.size)
    have hLF12 := hLF11.below hbY7
    have hLB12 := hLB11.below hbY7
    have hLC12 := hLC11.below hbY7
    have hO12 := hO11.below hbY7
    have hP12 := hP11.below hbY7
    have hR12 := hR11.below hbY7
    clear hs11 hn11 hB11 hLF11 hLB11 hLC11 hO11 hP11 hR11 hbY7
    go_wp2_with (first
      | (refine wpList_load_rowG rfl _ _ rfl _ rfl _ _ _ _ hs12' Tryz.underlying25 rfl (by kernel_rfl) ?_)
      | (refine wpList_load_rowG rfl _ _ rfl _ rfl _ _ _ _ hn12 Tryz.underlying25 rfl (by kernel_rfl) ?_))
    refine (KeptFunc_any ⟨par2, Ap2, cp2, bs2, A2, c2⟩ ⟨par, Ap, cp, bs, A, c⟩ hdat.symm _ _ hLF12 (hF.below hB12)).mono ?_
    rintro e Y8 ⟨rfl, hbY8⟩
    have hB13 := hB12.trans (hbY8.mono hB12.size)
    have hLB13 := hLB12.below hbY8
    have hLC13 := hLC12.below hbY8
    have hO13 := hO12.below hbY8
    have hP13 := hP12.below hbY8
    have hR13 := hR12.below hbY8
    clear hs12' hn12 hB12 hLF12 hLB12 hLC12 hO12 hP12 hR12 hbY8
    go_wp2_with fail
    refine (KeptInts_any B2 B cb2 cb frm _ _ hLB13 (hfr.below hB13)).mono ?_
    rintro e Y9 ⟨rfl, hbY9⟩
    have hB14 := hB13.trans (hbY9.mono hB13.size)
    have hLB14 := hLB13.below hbY9
    have hLC14 := hLC13.below hbY9
    have hO14 := hO13.below hbY9
    have hP14 := hP13.below hbY9
    have hR14 := hR13.below hbY9
    clear hB13 hLB13 hLC13 hO13 hP13 hR13 hbY9
    go_wp2_with fail
    refine (KeptInts_any C2 C cc2 cc nt _ _ hLC14 (hnt.below hB14)).mono ?_
    rintro e Y10 ⟨rfl, hbY10⟩
    have hB15 := hB14.trans (hbY10.mono hB14.size)
    have hOx15 := OwnS.of_lent (hLB14.below hbY10)
    have hO15 := hO14.below hbY10
    have hP15 := hP14.below hbY10
    have hR15 := hR14.below hbY10
    clear hB14 hLB14 hLC14 hO14 hP14 hR14 hbY10
    have hA := la_four (x := ⟨B2, frm.length, cb2⟩) (o := ⟨oA, lo.length, oc⟩) (p := ⟨pA, lp.length, pc⟩) (r := ⟨rA, lr.length, rc⟩) hxlt hlto hltp (fun b hb => hR15.low b hb) hw5l hs51 hs12
    have hcs := (Below.refl Y10.heap.size Y10).alloc (Nat.le_refl _) (.cells #[.slice oA lo.length oc, .slice pA lp.length pc, .slice rA lr.length rc, .slice B2 frm.length cb2] 22)
    have hnl := blk_new Y10 (.cells #[.slice oA lo.length oc, .slice pA lp.length pc, .slice rA lr.length rc, .slice B2 frm.length cb2] 22)
    have hO16 := hO15.below hcs
    have hP16 := hP15.below hcs
    have hR16 := hR15.below hcs
    have hX16 := hOx15.below hcs
    have hB16 := hB15.trans (hcs.mono hB15.size)
    have c4 : ∀ i, i < 4 → i = 0 ∨ i = 1 ∨ i = 2 ∨ i = 3 := fun i hi => by omega
    go_wp2_with fail
    refine (ApartInts_any Y10.heap.size 4 w.heap.size _ [⟨oA, lo.length, oc⟩, ⟨pA, lp.length, pc⟩, ⟨rA, lr.length, rc⟩, ⟨B2, frm.length, cb2⟩] _ (by simp) (by simp) hnl (fun k hk => ?_) (fun k hk => ?_) hA (fun k hk => ?_) hB16.size).mono ?_
    · rcases c4 k hk with rfl | rfl | rfl | rfl
      · exact hO16.ow
      · exact hP16.ow
      · exact hR16.ow
      · exact hX16.ow
    · rcases c4 k hk with rfl | rfl | rfl | rfl <;> rfl
    · rcases c4 k hk with rfl | rfl | rfl | rfl
      · exact hlo2
      · exact hlp2
      · exact hlr2
      · show frm.length ≤ 1024
        omega
    rintro e Y11 ⟨rfl, hbY11⟩
    have hB17 := hB16.trans hbY11
    clear hO16 hP16 hR16 hX16 hB16 hnl hcs hA hO15 hP15 hR15 hOx15 hB15
    go_wp2_with fail
    refine (awake10_any _).mono ?_
    rintro e Y12 ⟨rfl, hbY12⟩
    go_wp2
    go_ret
    exact ⟨rfl, hB17.trans (hbY12.mono hB17.size)⟩


end Go.Proofs.YtjichaeegheacaaGreatDoor
