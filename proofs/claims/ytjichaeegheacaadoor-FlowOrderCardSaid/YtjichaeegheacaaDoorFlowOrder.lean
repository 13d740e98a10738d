/-
  Law 10, FlowOrder: the walk.
-/
import Derived.Test.YtjichaeegheacaaDoorAwake10
import Derived.Test.YtjichaeegheacaaDoorReached
import Derived.Test.YtjichaeegheacaaDoorCount
namespace Go.Proofs.YtjichaeegheacaaDoor
open Go Go.RowKit

theorem flowOrder_no (bs : List Blk) (h : closedB bs = false) (p : Ed → Bool) : someE bs p = [] := by simp [someE, h]

theorem place_fresh (A : Option Addr) (c : Nat) (xs : List Int) (n : Int) (w : World) (hr : RI w A xs) :
    Calls Tryd.prog 27 #[.slice A xs.length c, .int .i64 n] w (Fresh w (.int .i64 (placeI xs n))) := (place_any A c xs n w hr).mono fun _ _ h => ⟨h.1, by rw [h.2]; exact Below.refl _ _⟩

set_option maxRecDepth 100000 in
set_option maxHeartbeats 8000000 in
theorem FlowOrder_any (P : Value) (A : Option Addr) (c : Nat) (bs : List Blk) (w : World) (hF : Fn w P A bs) (hT : Tab w) :
    Calls Tryd.prog 5 #[.agg #[P, .slice A bs.length c]] w (Fresh w (.bool true)) := by
  have hb0 := (Below.refl w.heap.size w).alloc (Nat.le_refl _) (.cells #[P, .slice A bs.length c] 38)
  have hs := blk_new w (.cells #[P, .slice A bs.length c] 38)
  go_enter Tryd.func5, Tryd.ntmps5
  go_wp2_with fail
  refine (awake10_any _).mono ?_
  rintro e W1 ⟨rfl, hb1⟩
  have hs1 := blk_below hb1 hs (blk_lt hs)
  have hB1 := hb0.trans (hb1.mono hb0.size)
  clear hb1 hb0 hs
  go_wp2_with (refine wpList_load_row rfl _ _ rfl _ rfl _ _ _ _ hs1 Tryd.underlying38 rfl (by kernel_rfl) ?_)
  refine (FuncOf_any P A c bs 500 W1 (hF.below hB1) (by omega) (by omega)).mono ?_
  rintro e W2 ⟨n, rfl, n0, n1, hb2⟩
  have hs2 := blk_below hb2 hs1 (blk_lt hs1)
  have hB2 := hB1.trans (hb2.mono hB1.size)
  clear hb2 hs1
  by_cases hbig : n > 500
  · have hd : decide (n > 500) = true := decide_eq_true hbig
    go_wp2
    go_ret
    exact ⟨rfl, hB2⟩
  · have hd : decide (n > 500) = false := decide_eq_false hbig
    have hr2 := hF.rf.below hB2
    cases hcl : closedB bs
    · go_wp2_with (refine wpList_load_row rfl _ _ rfl _ rfl _ _ _ _ hs2 Tryd.underlying38 rfl (by kernel_rfl) ?_)
      refine (Order_no P A c bs W2 hr2 hcl).mono ?_
      rintro e W3 ⟨rfl, hb3⟩
      have hs3 := blk_below hb3 hs2 (blk_lt hs2)
      have hB3 := hB2.trans (hb3.mono hB2.size)
      have q := Closed_any P A c bs W3 (hF.rf.below hB3)
      rw [hcl] at q
      go_wp2_with (refine wpList_load_row rfl _ _ rfl _ rfl _ _ _ _ hs3 Tryd.underlying38 rfl (by kernel_rfl) ?_)
      refine q.mono ?_
      rintro e W4 ⟨rfl, hb4⟩
      have hs4 := blk_below hb4 hs3 (blk_lt hs3)
      have hB4 := hB3.trans (hb4.mono hB3.size)
      have q2 := Edges_any P A c bs W4 (hF.rf.below hB4)
      rw [flowOrder_no bs hcl] at q2
      clear q
      go_wp2_with (refine wpList_load_rowG rfl _ _ rfl _ rfl _ _ _ _ hs4 Tryd.underlying38 rfl (by kernel_rfl) ?_)
      refine q2.mono ?_
      rintro e W5 ⟨v5, rfl, ho5, hn5, hb5⟩
      obtain rfl := hn5.2 rfl
      go_wp2
      go_ret
      exact ⟨rfl, hB4.trans (hb5.mono hB4.size)⟩
    · have hc := closed_cl hF.rf.ok hcl
      go_wp2_with (refine wpList_load_row rfl _ _ rfl _ rfl _ _ _ _ hs2 Tryd.underlying38 rfl (by kernel_rfl) ?_)
      refine (Order_yes P A c bs W2 hr2 hcl).mono ?_
      rintro e W3 ⟨l, rb, off, hl, rfl, hrow, hrb, hb3⟩
      have hs3 := blk_below hb3 hs2 (blk_lt hs2)
      have hB3 := hB2.trans (hb3.mono hB2.size)
      have q := Closed_any P A c bs W3 (hF.rf.below hB3)
      rw [hcl] at q
      go_wp2_with (refine wpList_load_row rfl _ _ rfl _ rfl _ _ _ _ hs3 Tryd.underlying38 rfl (by kernel_rfl) ?_)
      refine q.mono ?_
      rintro e W4 ⟨rfl, hb4⟩
      have hs4 := blk_below hb4 hs3 (blk_lt hs3)
      have hB4 := hB3.trans (hb4.mono hB3.size)
      have hl4 := (hrow.below hb4).RI
      clear q hb3 hb4 hs3 hs2
      go_wp2_with (refine wpList_load_row rfl _ _ rfl _ rfl _ _ _ _ hs4 Tryd.underlying38 rfl (by kernel_rfl) ?_)
      have hbA := (Below.refl W4.heap.size W4).alloc (Nat.le_refl _) (.cells #[.int .i64 0] 3)
      have hB4' := hB4.trans (hbA.mono hB4.size)
      refine (Reached_yes P A (some ⟨W4.heap.size, 0, none⟩) none c 1 0 bs [0] [] _ (hT.below hB4') (hF.rf.below hB4') (RI_lit (blk_new W4 _) (by intro x hx; simp at hx; subst hx; exact ⟨by decide, by decide⟩) (by decide)) (RI.nil _ _) hcl).mono ?_
      rintro e W5 ⟨R, hR, v5, rfl, ho5, hn5, hb5⟩
      have hb5' := hbA.trans (hb5.mono hbA.size)
      have hs5 := blk_below hb5' hs4 (blk_lt hs4)
      have hB5 := hB4.trans (hb5'.mono hB4.size)
      have hl5 := hl4.below hb5'
      obtain ⟨⟨Y, hY⟩, hlaw1, hlaw2⟩ := order_law hc hl
      obtain ⟨hlen, hin⟩ := hlaw1 R hR
      have hr64 := upTo_i64 (N := R) (Nat.le_refl 1024)
      have hrlen := upTo_len R 1024
      clear hb5 hb5' hbA hB4' hs4 hlaw1
      obtain ⟨r, hr⟩ : ∃ r, upTo R 1024 = r := ⟨_, rfl⟩
      rw [hr] at ho5 hlen hin hr64 hrlen
      clear hr hn5
      obtain ⟨A5, c5, rfl, hc5, hr5⟩ := own_RI ho5 hr64 (by omega)
      have hlpos : 0 < l.length := by rw [hY]; simp
      have hg0 : gI l 0 = 0 := by rw [hY]; rfl
      obtain ⟨bl, ol, hAl, hbl, hcl0, _⟩ := hl5.at_ hlpos
      cases hAl
      rw [hg0, Nat.add_zero] at hcl0
      have hd9 : ((l.length : Int) != (r.length : Int)) = false := by simp [hlen]
      have hlen' := Lib.hid hlen
      clear hlen hY hg0 ho5
      go_wp2
      go_loopw [5] (fun i wr => ∃ k : Nat, k ≤ r.length ∧ i = .int .i64 k ∧ wr = W5) (fun i _ => r.length - (intOf i).toNat)
      case atStart => exact ⟨0, Nat.zero_le _, rfl, rfl⟩
      case round =>
        obtain ⟨k, hk, rfl, rfl⟩ := hrel
        by_cases hkl : k < r.length
        · have hd : decide ((k : Int) < (r.length : Int)) = true := decide_eq_true (by omega)
          obtain ⟨br, or_, hAr, hbr, hcr, hxr⟩ := hr5.at_ hkl
          subst hAr
          have hp := placeI_nonneg.2 (hin _ (gI_mem hkl))
          have hpd : decide (placeI l (gI r k) < 0) = false := decide_eq_false (by omega)
          go_wp2_with fail
          refine (place_any _ _ l (gI r k) _ hl5).mono ?_
          rintro e W6 ⟨rfl, rfl⟩
          go_wp2
          go_roundw
          case rel => exact ⟨k + 1, by omega, by go_num, by trivial⟩
          case measure => simp [intOf]; omega
        · obtain rfl : k = r.length := by omega
          have hd : decide ((r.length : Int) < (r.length : Int)) = false := by simp
          go_wp2_with (refine wpList_load_row rfl _ _ rfl _ rfl _ _ _ _ hs5 Tryd.underlying38 rfl (by kernel_rfl) ?_)
          refine (Edges_any P A c bs wr (hF.rf.below hB5)).mono ?_
          rintro e W6 ⟨v6, rfl, ho6, hn6, hb6⟩
          rw [show (someE bs fun _ => true) = edgesOf bs by simp [someE, hcl]] at ho6 hn6
          have hs6 := blk_below hb6 hs5 (blk_lt hs5)
          have hB6 := hB5.trans (hb6.mono hB5.size)
          have hl6 := hl5.below hb6
          have heI := fun e he => edge_i64 (bs := bs) hF.rf.ok hF.rf.len (e := e) he
          have hel := edgesTo_len bs bs.length
          have hble := hc.le
          obtain ⟨es, hes⟩ : ∃ es, edgesOf bs = es := ⟨_, rfl⟩
          rw [show edgesTo bs bs.length = edgesOf bs from rfl, hes] at hel
          rw [hes] at ho6 hlaw2 heI
          clear hn6 hes hb6 hs5 hcl0
          obtain ⟨A6, c6, rfl, hc6, hE6⟩ := own_RE ho6 (by omega)
          clear ho6
          go_wp2
          obtain ⟨wo, rfl⟩ : ∃ wo : World, wo = W6 := ⟨_, rfl⟩
          go_loopw [7] (fun i wq => ∃ k : Nat, k ≤ es.length ∧ i = .int .i64 k ∧ wq.heap[w.heap.size]? = some (.cells #[P, .slice A bs.length c] 38 (0, 0)) ∧ Below w.heap.size w wq ∧ RI wq (some ⟨rb, off, none⟩) l ∧ RE wq A6 es) (fun i _ => es.length - (intOf i).toNat)
          case atStart => exact ⟨0, Nat.zero_le _, rfl, hs6, hB6, hl6, hE6⟩
          case round =>
            clear hs6 hB6 hl6 hE6 hB5 hl5 hr5
            obtain ⟨k, hk, rfl, hs7, hB7, hl7, hE7⟩ := hrel
            by_cases hkl : k < es.length
            · have hd : decide ((k : Int) < (es.length : Int)) = true := decide_eq_true (by omega)
              have hk0 : (0 : Int) ≤ (k : Int) := by omega
              have hk1 : (k : Int) < (es.length : Int) := by omega
              obtain ⟨be, oe, hAe, hbe, hce⟩ := hE7.rd k hkl
              subst hAe
              have hem := gE_mem hkl
              obtain ⟨h1, h2, h3⟩ := heI _ hem
              have hlw := hlaw2 _ hem
              generalize hge : gE es k = ed at *
              obtain ⟨ef, ea, et⟩ := ed
              simp only at hce h1 h2 h3 hlw
              have hpf := placeI_lo l ef
              have hpt := placeI_lo l et
              have hpf0 := placeI_nonneg (l := l) (b := ef)
              have hpt0 := placeI_nonneg (l := l) (b := et)
              go_wp2
              change Code.wp _ _ _ (Act.mk _ _) _
              refine wp_region_quiet_below (by kernel_rfl) (by kernel_rfl) ?_
              repeat (first
                | go_big_quiet_skip
                | (go_big_quiet_want; first
                    | (go_big_quiet_op; go_big_quiet_on)
                    | ((first
                        | refine q_go ⟨_, ⟨0, #[]⟩, rfl⟩ (fun K' hk => q_load1 _ _ rfl ⟨be, oe + k * 3, none⟩ rfl _ Tryd.underlying3 _ (fun W hW => (hce W (below_of_grow hW)).1) hk) ?_
                        | refine q_go ⟨_, ⟨0, #[]⟩, rfl⟩ (fun K' hk => q_load1 _ _ rfl ⟨be, oe + k * 3 + 2, none⟩ rfl _ Tryd.underlying3 _ (fun W hW => (hce W (below_of_grow hW)).2.2) hk) ?_
                        | refine q_go ⟨_, ⟨0, #[]⟩, rfl⟩ (fun K' hk => q_call2 27 _ _ _ rfl (.slice (some ⟨rb, off, none⟩) l.length l.length) rfl (.int .i64 ef) rfl (by kernel_rfl) _ (fresh_grow (fun W hW => place_fresh _ _ l ef W (hl7.below hW))) hk) ?_
                        | refine q_go ⟨_, ⟨0, #[]⟩, rfl⟩ (fun K' hk => q_call2 27 _ _ _ rfl (.slice (some ⟨rb, off, none⟩) l.length l.length) rfl (.int .i64 et) rfl (by kernel_rfl) _ (fresh_grow (fun W hW => place_fresh _ _ l et W (hl7.below hW))) hk) ?_); go_big_quiet_op; go_big_quiet_on)))
              refine wpQuiet_nil ?_
              intro W7 hW7'
              have hW7 := below_of_grow hW7'
              clear hW7'
              have hs8 := blk_below hW7 hs7 (blk_lt hs7)
              have hB8 := hB7.trans (hW7.mono hB7.size)
              have hl8 := hl7.below hW7
              have hE8 := hE7.below hW7
              have hce8 : ∀ W, Below W7.heap.size W7 W → W.cell? ⟨be, oe + k * 3, none⟩ = some (.int .i64 ef) ∧ W.cell? ⟨be, oe + k * 3 + 2, none⟩ = some (.int .i64 et) := fun W hW => ⟨(hce W (hW7.trans (hW.mono hW7.size))).1, (hce W (hW7.trans (hW.mono hW7.size))).2.2⟩
              clear hce hs7 hB7 hl7 hE7 hW7 hge
              have hdr : Below W7.heap.size W7 W7.drew := (Below.refl _ _).drew
              generalize hpfe : placeI l ef = pf at *
              generalize hpte : placeI l et = pt at *
              clear hpfe hpte
              by_cases ha : pf ≥ 0
              · obtain ⟨htl, hback⟩ := hlw (hpf0.1 ha)
                have hb := hpt0.2 htl
                have hef := hpf0.1 ha
                clear hpf0 hpt0 hlw htl
                have d1 : decide (pf ≥ 0) = true := decide_eq_true ha
                have d1' : decide (0 ≤ pf) = true := decide_eq_true ha
                have d2 : decide (pt < 0) = false := decide_eq_false (by omega)
                by_cases hba : pt ≤ pf
                · have d3 : decide (pt ≤ pf) = true := decide_eq_true hba
                  have hback2 := hback hba
                  go_wp2
                  change Code.wp _ _ _ (Act.mk _ _) _
                  refine wp_region_tree (S := fun W => ∃ p : Regrown, W = Sort.grow (redrawn W7 p.d) p.os) (.look [0, 1, 2, 3, 4, 5, 6, 7, 8, 9, 10, 11, 12, 13, 14, 15, 18, 19, 20, 21, 22] (.one 16 (.one 17 (.one 23 (.look [24, 25, 26, 27] .done))))) (by kernel_rfl) (by kernel_rfl) (regrown_of_below hdr) (fun d _ _ _ _ h => by cases d <;> exact h) ?_
                  refine tree_look ?_
                  dsimp only [pickL, nthO]
                  repeat (first
                    | go_big_quiet_skip
                    | (go_big_quiet_want; first
                        | (go_big_quiet_op; go_big_quiet_on)
                        | ((first
                            | refine q_go ⟨_, ⟨0, #[]⟩, rfl⟩ (fun K' hk => q_load _ _ rfl _ rfl _ _ _ _ (fun W hW => blk_below (below_of_grow hW) hs8 (blk_lt hs8)) Tryd.underlying38 rfl (by kernel_rfl) hk) ?_
                            | refine q_go ⟨_, ⟨0, #[]⟩, rfl⟩ (fun K' hk => q_load1 _ _ rfl ⟨be, oe + k * 3, none⟩ rfl _ Tryd.underlying3 _ (fun W hW => (hce8 W (below_of_grow hW)).1) hk) ?_
                            | refine q_go ⟨_, ⟨0, #[]⟩, rfl⟩ (fun K' hk => q_load1 _ _ rfl ⟨be, oe + k * 3 + 2, none⟩ rfl _ Tryd.underlying3 _ (fun W hW => (hce8 W (below_of_grow hW)).2) hk) ?_); go_big_quiet_op; go_big_quiet_on)))
                  refine wpQuiet_nil ?_
                  refine tree_one rfl ?_
                  go_wp2_with fail
                  have hbA := hdr.alloc hdr.size (.cells #[.int .i64 et] 3)
                  refine ⟨regrown_of_below hbA, ?_⟩
                  refine tree_one rfl ?_
                  go_wp2_with fail
                  have hbA2 := ((Below.refl W7.heap.size W7).alloc (Nat.le_refl _) (.cells #[.int .i64 et] 3)).drew
                  refine (Reached_yes P A (some ⟨W7.heap.size, 0, none⟩) none c 1 0 bs [et] [] _ (hT.below (hB8.trans (hbA2.mono hB8.size))) (hF.rf.below (hB8.trans (hbA2.mono hB8.size))) ((RI_lit (blk_new W7 _) (by intro x hx; simp at hx; subst hx; exact h3) (by simp)).below ((Below.refl _ _).drew)) (RI.nil _ _) hcl).mono ?_
                  rintro e W9 ⟨R2, hR2, v9, rfl, ho9, hn9, hb9⟩
                  have hb9' := hbA2.trans (hb9.mono hbA2.size)
                  have hin2 := hback2 R2 hR2
                  have hp2 := placeI_nonneg.2 hin2
                  have hlen9 := upTo_len R2 1024
                  obtain ⟨A9, c9, rfl, hc9, hr9⟩ := own_RI ho9 (upTo_i64 (Nat.le_refl 1024)) (by omega)
                  clear hback2 hback hin2 ho9 hn9 hb9 hbA hbA2 hdr hef
                  generalize upTo R2 1024 = r2 at *
                  have d4 : decide (placeI r2 ef < 0) = false := decide_eq_false (by omega)
                  go_wp2
                  refine ⟨regrown_of_below hb9', ?_⟩
                  refine tree_one rfl ?_
                  go_wp2_with fail
                  refine (place_any A9 c9 r2 ef _ hr9).mono ?_
                  rintro e W10 ⟨rfl, rfl⟩
                  clear hp2
                  go_wp2
                  refine ⟨regrown_of_below hb9', ?_⟩
                  refine tree_look ?_
                  dsimp only [pickL, nthO]
                  repeat (first
                    | go_big_quiet_skip
                    | (go_big_quiet_want; go_big_quiet_op; go_big_quiet_on))
                  refine wpQuiet_nil ?_
                  refine tree_done ?_
                  have hs10 := blk_below hb9' hs8 (blk_lt hs8)
                  have hB10 := hB8.trans (hb9'.mono hB8.size)
                  have hl10 := hl8.below hb9'
                  have hE10 := hE8.below hb9'
                  go_wp2
                  go_roundw
                  case rel => exact ⟨k + 1, by omega, by go_num, hs10, hB10, hl10, hE10⟩
                  case measure => simp [intOf]; omega
                · have d3 : decide (pt ≤ pf) = false := decide_eq_false hba
                  clear hback hef hba
                  go_wp2
                  change Code.wp _ _ _ (Act.mk _ _) _
                  refine wp_region_tree (S := fun W => ∃ p : Regrown, W = Sort.grow (redrawn W7 p.d) p.os) (.look [0, 1, 2, 3, 4, 5, 6, 7, 8, 9, 10, 11, 12, 13, 14, 15, 18, 19, 20, 21, 22] (.one 16 (.one 17 (.one 23 (.look [24, 25, 26, 27] .done))))) (by kernel_rfl) (by kernel_rfl) (regrown_of_below hdr) (fun d _ _ _ _ h => by cases d <;> exact h) ?_
                  refine tree_look ?_
                  dsimp only [pickL, nthO]
                  repeat (first
                    | go_big_quiet_skip
                    | (go_big_quiet_want; go_big_quiet_op; go_big_quiet_on))
                  refine wpQuiet_nil ?_
                  refine tree_one rfl ?_
                  go_wp2
                  refine ⟨regrown_of_below hdr, ?_⟩
                  refine tree_one rfl ?_
                  go_wp2
                  refine ⟨regrown_of_below hdr, ?_⟩
                  refine tree_one rfl ?_
                  go_wp2
                  refine ⟨regrown_of_below hdr, ?_⟩
                  refine tree_look ?_
                  dsimp only [pickL, nthO]
                  repeat (first
                    | go_big_quiet_skip
                    | (go_big_quiet_want; go_big_quiet_op; go_big_quiet_on))
                  refine wpQuiet_nil ?_
                  refine tree_done ?_
                  have hs10 := blk_below hdr hs8 (blk_lt hs8)
                  have hB10 := hB8.trans (hdr.mono hB8.size)
                  have hl10 := hl8.below hdr
                  have hE10 := hE8.below hdr
                  go_wp2
                  go_roundw
                  case rel => exact ⟨k + 1, by omega, by go_num, hs10, hB10, hl10, hE10⟩
                  case measure => simp [intOf]; omega
              · have d1 : decide (pf ≥ 0) = false := decide_eq_false ha
                have d1' : decide (0 ≤ pf) = false := decide_eq_false ha
                clear hpf0 hpt0 hlw ha
                go_wp2
                change Code.wp _ _ _ (Act.mk _ _) _
                refine wp_region_tree (S := fun W => ∃ p : Regrown, W = Sort.grow (redrawn W7 p.d) p.os) (.look [0, 1, 2, 3, 4, 5, 6, 7, 8, 9, 10, 11, 12, 13, 14, 15, 18, 19, 20, 21, 22] (.one 16 (.one 17 (.one 23 (.look [24, 25, 26, 27] .done))))) (by kernel_rfl) (by kernel_rfl) (regrown_of_below hdr) (fun d _ _ _ _ h => by cases d <;> exact h) ?_
                refine tree_look ?_
                dsimp only [pickL, nthO]
                repeat (first
                  | go_big_quiet_skip
                  | (go_big_quiet_want; go_big_quiet_op; go_big_quiet_on))
                refine wpQuiet_nil ?_
                refine tree_one rfl ?_
                go_wp2
                refine ⟨regrown_of_below hdr, ?_⟩
                refine tree_one rfl ?_
                go_wp2
                refine ⟨regrown_of_below hdr, ?_⟩
                refine tree_one rfl ?_
                go_wp2
                refine ⟨regrown_of_below hdr, ?_⟩
                refine tree_look ?_
                dsimp only [pickL, nthO]
                repeat (first
                  | go_big_quiet_skip
                  | (go_big_quiet_want; go_big_quiet_op; go_big_quiet_on))
                refine wpQuiet_nil ?_
                refine tree_done ?_
                have hs10 := blk_below hdr hs8 (blk_lt hs8)
                have hB10 := hB8.trans (hdr.mono hB8.size)
                have hl10 := hl8.below hdr
                have hE10 := hE8.below hdr
                go_wp2
                go_roundw
                case rel => exact ⟨k + 1, by omega, by go_num, hs10, hB10, hl10, hE10⟩
                case measure => simp [intOf]; omega
            · obtain rfl : k = es.length := by omega
              have hd : decide ((es.length : Int) < (es.length : Int)) = false := by simp
              go_wp2
              go_ret
              exact ⟨rfl, hB7⟩

end Go.Proofs.YtjichaeegheacaaDoor
