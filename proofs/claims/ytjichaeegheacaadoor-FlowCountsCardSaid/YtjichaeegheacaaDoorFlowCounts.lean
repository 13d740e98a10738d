/-
  Law 10, FlowCounts: the walk.
-/
import Derived.Test.YtjichaeegheacaaDoorCountsL
namespace Go.Proofs.YtjichaeegheacaaDoor
open Go Go.RowKit

theorem place10_fresh (A : Option Addr) (c : Nat) (xs : List Int) (n : Int) (w : World) (hr : RI w A xs) :
    Calls Tryd.prog 27 #[.slice A xs.length c, .int .i64 n] w (Fresh w (.int .i64 (placeI xs n))) := (place_any A c xs n w hr).mono fun _ _ h => ⟨h.1, by rw [h.2]; exact Below.refl _ _⟩

theorem run_equalIn_ed (d : Nat) (a b c : Int) (w : World) : (Op.equalIn (d + 2) 47 (.agg #[.int .i64 a, .int .i64 b, .int .i64 c]) (.agg #[.int .i64 a, .int .i64 b, .int .i64 c])).run Tryd.prog w = .ok true w := by
  simp [Op.equalIn, run_underlying Tryd.underlying47, part, isAgg, run_underlying Tryd.underlying3, Sem.run_bind, sizeOf, typeInfo, run_program]
theorem run_neq_ed (a b c : Int) (w : World) : (binOp .neq 47 (.agg #[.int .i64 a, .int .i64 b, .int .i64 c]) (.agg #[.int .i64 a, .int .i64 b, .int .i64 c])).run Tryd.prog w = .ok (.bool false) w := by
  rw [run_neq_struct, run_equalIn_ed]
  rfl
section
variable {C : World → Prop} {a : Act} {o : Oper} {K : Act → Prop}
theorem q_ed_ne (x y : Operand) (p q r : Int) (ho : o.op = .binOp .neq 47 x y 47) (hx : a.eval x = .agg #[.int .i64 p, .int .i64 q, .int .i64 r]) (hy : a.eval y = .agg #[.int .i64 p, .int .i64 q, .int .i64 r])
    (hk : K (a.put o.dst (.bool false))) : o.quiet Tryd.prog a C K := by
  refine ⟨.bool false, fun W hW => ?_, hk⟩
  unfold Oper.quietAt execOp
  simp only [ho, hx, hy]
  have hg : (eqGuard .neq 47 x y (.agg #[.int .i64 p, .int .i64 q, .int .i64 r]) (.agg #[.int .i64 p, .int .i64 q, .int .i64 r])).run Tryd.prog W = .ok () W := run_eqGuard_agg W _ _ _ _ _ _ (by kernel_rfl)
  simp [Sem.run_bind, hg, run_neq_ed, Oper.quietUpon]
end
/-- The three cells of an edge. -/
theorem ed_range {W : World} {b f : Nat} {p q r : Int} (h : W.cell? ⟨b, f, none⟩ = some (.int .i64 p) ∧ W.cell? ⟨b, f + 1, none⟩ = some (.int .i64 q) ∧ W.cell? ⟨b, f + 2, none⟩ = some (.int .i64 r)) : W.rangeAt b f [.int .i64 p, .int .i64 q, .int .i64 r] := by
  intro j v hv
  match j, hv with
  | 0, hv => simp at hv; subst hv; exact h.1
  | 1, hv => simp at hv; subst hv; exact h.2.1
  | 2, hv => simp at hv; subst hv; exact h.2.2

theorem filter_len_step {p : Ed → Bool} {es : List Ed} {k : Nat} (hk : k < es.length) : ((es.take (k + 1)).filter p).length = ((es.take k).filter p).length + if p (gE es k) then 1 else 0 := by
  rw [filter_take_succ hk, List.length_append]
  cases p (gE es k) <;> rfl

set_option maxRecDepth 100000 in
set_option maxHeartbeats 8000000 in
theorem FlowCounts_any (P : Value) (A B C : Option Addr) (c cb cc : Nat) (bs : List Blk) (xs ys : List Int) (w : World) (hF : Fn w P A bs) (hx : SI w B cb xs) (hy : SI w C cc ys) (hT : Tab w) :
    Calls Tryd.prog 6 #[.agg #[P, .slice A bs.length c], .slice B xs.length cb, .slice C ys.length cc] w (Fresh w (.bool true)) := by
  have hb0 := (Below.refl w.heap.size w).alloc (Nat.le_refl _) (.cells #[P, .slice A bs.length c] 38)
  have hs := blk_new w (.cells #[P, .slice A bs.length c] 38)
  have hxl := hx.ri.len
  have hyl := hy.ri.len
  go_enter Tryd.func6, Tryd.ntmps6
  go_wp2_with fail
  refine (awake10_any _).mono ?_
  rintro e W1 ⟨rfl, hb1⟩
  have hs1 := blk_below hb1 hs (blk_lt hs)
  have hB1 := hb0.trans (hb1.mono hb0.size)
  clear hb1 hb0 hs
  go_wp2_with (refine wpList_load_row rfl _ _ rfl _ rfl _ _ _ _ hs1 Tryd.underlying38 rfl (by kernel_rfl) ?_)
  refine (FuncOf_any P A c bs 500 W1 (hF.below hB1) (by omega) (by omega)).mono ?_
  rintro e W2 ⟨n, rfl, n0, n1, hb2⟩
  have hs2 := blk_below hb2 hs1 (blk_lt hs1)
  have hB2 := hB1.trans (hb2.mono hB1.size)
  clear hb2 hs1
  by_cases hbig : n + (xs.length : Int) + (ys.length : Int) > 500
  · have hd : decide (n + (xs.length : Int) + (ys.length : Int) > 500) = true := decide_eq_true hbig
    go_wp2
    go_ret
    exact ⟨rfl, hB2⟩
  have hd : decide (n + (xs.length : Int) + (ys.length : Int) > 500) = false := decide_eq_false hbig
  go_wp2_with (refine wpList_load_row rfl _ _ rfl _ rfl _ _ _ _ hs2 Tryd.underlying38 rfl (by kernel_rfl) ?_)
  refine (Edges_any P A c bs W2 (hF.rf.below hB2)).mono ?_
  rintro e W3 ⟨v3, rfl, ho3, hn3, hb3⟩
  have hs3 := blk_below hb3 hs2 (blk_lt hs2)
  have hB3 := hB2.trans (hb3.mono hB2.size)
  obtain ⟨A3, c3, rfl, hc3, hE3⟩ := own_RE ho3 (by have := allE_len2 bs; unfold allE at this; omega)
  go_wp2_with (refine wpList_load_row rfl _ _ rfl _ rfl _ _ _ _ hs3 Tryd.underlying38 rfl (by kernel_rfl) ?_)
  refine (Critical_any P A c bs W3 (hF.rf.below hB3)).mono ?_
  rintro e W4 ⟨v4, rfl, ho4, hn4, hb4⟩
  have hs4 := blk_below hb4 hs3 (blk_lt hs3)
  have hB4 := hB3.trans (hb4.mono hB3.size)
  have hE4 := hE3.below hb4
  rw [someE_eq] at ho4 hn4
  have hel := allE_len2 bs
  obtain ⟨A4, c4, rfl, hc4, hC4⟩ := own_RE ho4 (by have := List.length_filter_le (critB (edgesOf bs)) (allE bs); omega)
  clear hn3 hn4 ho3 ho4 hb3 hb4 hs2 hs3 hE3
  have hle1 : ∀ k, outS bs k ≤ (allE bs).length := fun k => sumE_le (·.f) (allE bs) k
  have hle2 : ∀ k, inS bs k ≤ (allE bs).length := fun k => sumE_le (·.t) (allE bs) k
  have hblen := hF.rf.len
  rw [show (someE bs fun _ => true) = allE bs from rfl] at hE4 ⊢
  obtain ⟨E, hE⟩ : ∃ E, allE bs = E := ⟨_, rfl⟩
  have hE' := Lib.hid hE
  rw [hE] at hE4 hel hle1 hle2 hC4
  rw [hE]
  clear hE
  go_wp2
  change Code.wp _ _ _ (Act.mk _ _) _
  go_loopw [10, 11, 12] (fun o i b wr => ∃ k : Nat, k ≤ bs.length ∧ b = .int .i64 k ∧ o = .int .i64 (outS bs k) ∧ i = .int .i64 (inS bs k) ∧ wr.heap[w.heap.size]? = some (.cells #[P, .slice A bs.length c] 38 (0, 0)) ∧ Below w.heap.size w wr ∧ RE wr A3 E ∧ RE wr A4 (E.filter (critB (edgesOf bs)))) (fun _ _ b _ => bs.length - (intOf b).toNat)
  case atStart => exact ⟨0, Nat.zero_le _, rfl, rfl, rfl, hs4, hB4, hE4, hC4⟩
  case round =>
    clear hs4 hB4 hE4 hC4
    obtain ⟨k, hk, rfl, rfl, rfl, hs5, hB5, hE5, hC5⟩ := hrel
    have c1 := (cell_of_row _ _ 1 _ _ _ hs5).trans (show #[P, .slice A bs.length c][1]? = some (.slice A bs.length c) from rfl)
    by_cases hkl : k < bs.length
    · have hd2 : decide ((k : Int) < (bs.length : Int)) = true := decide_eq_true (by omega)
      have ho := outS_succ bs k
      have hi := inS_succ bs k
      have l1 := hle1 k
      have l2 := hle2 k
      have l3 := hle1 (k + 1)
      have l4 := hle2 (k + 1)
      generalize hFk : (someE bs fun x => decide (x.f = (k : Int))) = Fk at *
      generalize hIk : (someE bs fun x => decide (x.t = (k : Int))) = Ik at *
      have hFk' := Lib.hid hFk
      have hIk' := Lib.hid hIk
      have ho' := Lib.hid ho
      have hi' := Lib.hid hi
      rw [ho] at l3
      rw [hi] at l4
      clear hFk hIk ho hi
      have qF := From_any P A c bs (k : Int) wr (hF.rf.below hB5)
      rw [hFk'.out] at qF
      go_wp2_with (refine wpList_load_row rfl _ _ rfl _ rfl _ _ _ _ hs5 Tryd.underlying38 rfl (by kernel_rfl) ?_)
      refine qF.mono ?_
      rintro e W6 ⟨v6, rfl, ho6, hn6, hb6⟩
      obtain ⟨A6, c6, rfl⟩ := own_form ho6
      have hs6 := blk_below hb6 hs5 (blk_lt hs5)
      have hB6 := hB5.trans (hb6.mono hB5.size)
      have qI := Into_any P A c bs (k : Int) W6 (hF.rf.below hB6)
      rw [hIk'.out] at qI
      clear qF hn6
      go_wp2_with (refine wpList_load_row rfl _ _ rfl _ rfl _ _ _ _ hs6 Tryd.underlying38 rfl (by kernel_rfl) ?_)
      refine qI.mono ?_
      rintro e W7 ⟨v7, rfl, ho7, hn7, hb7⟩
      obtain ⟨A7, c7, rfl⟩ := own_form ho7
      have hs7 := blk_below hb7 hs6 (blk_lt hs6)
      have hB7 := hB6.trans (hb7.mono hB6.size)
      have hE7 := (hE5.below hb6).below hb7
      have hC7 := (hC5.below hb6).below hb7
      clear qI hn7
      go_wp2
      go_roundw
      case rel => exact ⟨k + 1, by omega, by go_num, by rw [ho'.out]; go_num, by rw [hi'.out]; go_num, hs7, hB7, hE7, hC7⟩
      case measure => simp [intOf]; omega
    · obtain rfl : k = bs.length := by omega
      have hd2 : decide ((bs.length : Int) < (bs.length : Int)) = false := by simp
      have e1 := outS_all bs
      have e2 := inS_all bs hF.rf.ok
      rw [hE'.out] at e1 e2
      rw [e1, e2]
      clear e1 e2 hle1 hle2
      go_wp2
      change Code.wp _ _ _ (Act.mk _ _) _
      obtain ⟨wo, rfl⟩ : ∃ wo : World, wo = wr := ⟨_, rfl⟩
      generalize hp : critB (edgesOf bs) = p at *
      have hfl : ∀ k, ((E.take k).filter p).length ≤ E.length := fun k => by
        have h1 := List.length_filter_le p (E.take k)
        have h2 := List.length_take_le k E
        have h3 := List.length_take_le' k E
        omega
      go_loopw [9, 13] (fun at_ i wr => ∃ k : Nat, k ≤ E.length ∧ i = .int .i64 k ∧ at_ = .int .i64 ((E.take k).filter p).length ∧ wr.heap[w.heap.size]? = some (.cells #[P, .slice A bs.length c] 38 (0, 0)) ∧ Below w.heap.size w wr ∧ RE wr A3 E ∧ RE wr A4 (E.filter p)) (fun _ i _ => E.length - (intOf i).toNat)
      case atStart => exact ⟨0, Nat.zero_le _, rfl, rfl, hs5, hB5, hE5, hC5⟩
      case round =>
        clear hs5 hB5 hE5 hC5 c1
        obtain ⟨k, hk, rfl, rfl, hs6, hB6, hE6, hC6⟩ := hrel
        by_cases hkl : k < E.length
        · have hd3 : decide ((k : Int) < (E.length : Int)) = true := decide_eq_true (by omega)
          have hk0 : (0 : Int) ≤ (k : Int) := by omega
          have hk1 : (k : Int) < (E.length : Int) := by omega
          obtain ⟨be, oe, hAe, hbe, hce⟩ := hE6.rd k hkl
          subst hAe
          have hem := gE_mem hkl
          have hem2 : gE E k ∈ allE bs := by rw [hE'.out]; exact hem
          have hcr := crit_law hem2
          rw [hp] at hcr
          have hstep := Lib.hid (filter_len_step (p := p) hkl)
          have hfa := fun h => filter_at (p := p) hkl h
          have hfk := hfl k
          have hnx : ∀ j, j + 1 = k → edLt (gE E j) (gE E k) := fun j hj => by
            subst hj
            have h2 := allE_next bs (i := j)
            rw [hE'.out] at h2
            exact h2 hkl
          clear hem hem2
          generalize hge : gE E k = ed at *
          obtain ⟨ef, ea, et⟩ := ed
          simp only at hce hcr
          have qF := fun W hW => From_any P A c bs ef W (hF.rf.below (w' := W) hW)
          have qI := fun W hW => Into_any P A c bs et W (hF.rf.below (w' := W) hW)
          have lF : (someE bs fun x => decide (x.f = ef)).length ≤ 400 := by rw [someE_eq]; have := List.length_filter_le (fun x : Ed => decide (x.f = ef)) (allE bs); have := allE_len2 bs; omega
          have lI : (someE bs fun x => decide (x.t = et)).length ≤ 400 := by rw [someE_eq]; have := List.length_filter_le (fun x : Ed => decide (x.t = et)) (allE bs); have := allE_len2 bs; omega
          generalize (someE bs fun x => decide (x.f = ef)) = F at *
          generalize (someE bs fun x => decide (x.t = et)) = I at *
          have hdr : Below wr.heap.size wr wr.drew := (Below.refl _ _).drew
          by_cases q1 : 1 < F.length
          · have d1 : decide ((F.length : Int) > 1) = true := decide_eq_true (by omega)
            have d1' : decide ((1 : Int) < (F.length : Int)) = true := decide_eq_true (by omega)
            go_wp2
            change Code.wp _ _ _ (Act.mk _ _) _
            refine wp_region_tree (S := fun W => ∃ p : Regrown, W = Sort.grow (redrawn wr p.d) p.os) (.look [0, 1, 2, 3, 4, 5] (.one 6 (.look [7, 8, 9, 10, 11, 12, 13, 14, 15] (.one 16 (.look [17, 18, 19, 20] .done))))) (by kernel_rfl) (by kernel_rfl) (regrown_of_below hdr) (fun d _ _ _ _ h => by cases d <;> exact h) ?_
            refine tree_look ?_
            dsimp only [pickL, nthO]
            repeat (first
              | go_big_quiet_skip
              | (go_big_quiet_want; first
                  | (go_big_quiet_op; go_big_quiet_on)
                  | ((first
                      | refine q_go ⟨_, ⟨0, #[]⟩, rfl⟩ (fun K' hk => q_load _ _ rfl _ rfl _ _ _ _ (fun W hW => blk_below (below_of_grow hW) hs6 (blk_lt hs6)) Tryd.underlying38 rfl (by kernel_rfl) hk) ?_
                      | refine q_go ⟨_, ⟨0, #[]⟩, rfl⟩ (fun K' hk => q_load1 _ _ rfl ⟨be, oe + k * 3, none⟩ rfl _ Tryd.underlying3 _ (fun W hW => (hce W (below_of_grow hW)).1) hk) ?_); go_big_quiet_op; go_big_quiet_on)))
            refine wpQuiet_nil ?_
            refine tree_one rfl ?_
            go_wp2_with fail
            refine (qF _ (hB6.trans (hdr.mono hB6.size))).mono ?_
            rintro e W7 ⟨v7, rfl, ho7, hn7, hb7⟩
            obtain ⟨A7, c7, rfl⟩ := own_form ho7
            have hb7' := hdr.trans hb7
            clear ho7 hn7 hb7
            go_wp2
            refine ⟨regrown_of_below hb7', ?_⟩
            refine tree_look ?_
            dsimp only [pickL, nthO]
            repeat (first
              | go_big_quiet_skip
              | (go_big_quiet_want; first
                  | (go_big_quiet_op; go_big_quiet_on)
                  | ((first
                      | refine q_go ⟨_, ⟨0, #[]⟩, rfl⟩ (fun K' hk => q_load _ _ rfl _ rfl _ _ _ _ (fun W hW => blk_below (below_of_grow hW) hs6 (blk_lt hs6)) Tryd.underlying38 rfl (by kernel_rfl) hk) ?_
                      | refine q_go ⟨_, ⟨0, #[]⟩, rfl⟩ (fun K' hk => q_load1 _ _ rfl ⟨be, oe + k * 3 + 2, none⟩ rfl _ Tryd.underlying3 _ (fun W hW => (hce W (below_of_grow hW)).2.2) hk) ?_); go_big_quiet_op; go_big_quiet_on)))
            refine wpQuiet_nil ?_
            refine tree_one rfl ?_
            go_wp2_with fail
            refine (qI _ (hB6.trans (hb7'.mono hB6.size))).mono ?_
            rintro e W8 ⟨v8, rfl, ho8, hn8, hb8⟩
            obtain ⟨A8, c8, rfl⟩ := own_form ho8
            have hb9 := hb7'.trans (hb8.mono hb7'.size)
            clear ho8 hn8 hb8
            go_wp2
            refine ⟨regrown_of_below hb9, ?_⟩
            by_cases q2 : 1 < I.length
            · have d2 : decide ((I.length : Int) > 1) = true := decide_eq_true (by omega)
              have d2' : decide ((1 : Int) < (I.length : Int)) = true := decide_eq_true (by omega)
              have hpt : p ⟨ef, ea, et⟩ = true := by rw [hcr, decide_eq_true q1, decide_eq_true q2]; rfl
              refine tree_look ?_
              dsimp only [pickL, nthO]
              repeat (first
                | go_big_quiet_skip
                | (go_big_quiet_want; go_big_quiet_op; go_big_quiet_on))
              refine wpQuiet_nil ?_
              refine tree_done ?_
              have hs9 := blk_below hb9 hs6 (blk_lt hs6)
              have hB9 := hB6.trans (hb9.mono hB6.size)
              have hE9 := hE6.below hb9
              have hC9 := hC6.below hb9
              have hce9 := fun W (hW : Below W8.heap.size W8 W) => hce W (hb9.trans (hW.mono hb9.size))
              clear hdr hb7' qF qI hs6 hB6 hE6 hce hb9 hcr
              obtain ⟨hlt, hat⟩ := hfa hpt
              obtain ⟨bc, oc, hAc, hbc, hcc⟩ := hC9.rd _ hlt
              subst hAc
              rw [hat] at hcc
              simp only at hcc
              have hcc9 := hcc
              have heq17 : ((((E.take k).filter p).length : Int) == ((E.filter p).length : Int)) = false := by rw [beq_eq_false_iff_ne]; omega
              have hi0 : (0 : Int) ≤ (((E.take k).filter p).length : Int) := by omega
              have hi1 : (((E.take k).filter p).length : Int) < ((E.filter p).length : Int) := by omega
              clear hcc hat hfa hC6 hlt
              go_wp2
              change Code.wp _ _ _ (Act.mk _ _) _
              refine wp_region_quiet_below (by kernel_rfl) (by kernel_rfl) ?_
              repeat (first
                | go_big_quiet_skip
                | (go_big_quiet_want; first
                    | (go_big_quiet_op; go_big_quiet_on)
                    | ((first
                        | refine q_go ⟨_, ⟨0, #[]⟩, rfl⟩ (fun K' hk => q_loadM _ _ rfl bc (oc + ((E.take k).filter p).length * 3) rfl [.int .i64 ef, .int .i64 ea, .int .i64 et] _ (fun W hW => ed_range (hcc9 W (below_of_grow hW))) Tryd.underlying47 rfl (by kernel_rfl) hk) ?_
                        | refine q_go ⟨_, ⟨0, #[]⟩, rfl⟩ (fun K' hk => q_loadM _ _ rfl be (oe + k * 3) rfl [.int .i64 ef, .int .i64 ea, .int .i64 et] _ (fun W hW => ed_range (hce9 W (below_of_grow hW))) Tryd.underlying47 rfl (by kernel_rfl) hk) ?_
                        | refine q_go ⟨_, ⟨0, #[]⟩, rfl⟩ (fun K' hk => q_ed_ne _ _ ef ea et rfl rfl rfl hk) ?_); go_big_quiet_op; go_big_quiet_on)))
              refine wpQuiet_nil ?_
              intro W10 hW10'
              have hW10 := below_of_grow hW10'
              clear hW10'
              have hs10 := blk_below hW10 hs9 (blk_lt hs9)
              have hB10 := hB9.trans (hW10.mono hB9.size)
              have hE10 := hE9.below hW10
              have hC10 := hC9.below hW10
              have hce10 := fun W (hW : Below W10.heap.size W10 W) => hce9 W (hW10.trans (hW.mono hW10.size))
              clear hs9 hB9 hE9 hC9 hce9 hW10
              clear hcc9 hi0 hi1 heq17
              by_cases hk00 : k = 0
              · have d5 : decide ((k : Int) > 0) = false := decide_eq_false (by omega)
                have d5' : decide ((0 : Int) < (k : Int)) = false := decide_eq_false (by omega)
                have d5'' : decide (0 < k) = false := decide_eq_false (by omega)
                clear hnx hk00
                go_wp2
                change Code.wp _ _ _ (Act.mk _ _) _
                refine wp_region_quiet_below (by kernel_rfl) (by kernel_rfl) ?_
                repeat (first
                  | go_big_quiet_skip
                  | (go_big_quiet_want; go_big_quiet_op; go_big_quiet_on))
                refine wpQuiet_nil ?_
                intro W11 hW11'
                have hW11 := below_of_grow hW11'
                clear hW11'
                have hs11 := blk_below hW11 hs10 (blk_lt hs10)
                have hB11 := hB10.trans (hW11.mono hB10.size)
                have hE11 := hE10.below hW11
                have hC11 := hC10.below hW11
                go_wp2
                go_roundw
                case rel => exact ⟨k + 1, by omega, by go_num, by rw [hstep.out, if_pos hpt]; go_num, hs11, hB11, hE11, hC11⟩
                case measure => simp [intOf]; omega
              · obtain ⟨j, hj⟩ : ∃ j, j + 1 = k := ⟨k - 1, by omega⟩
                have hlt := hnx j hj
                have d5 : decide ((k : Int) > 0) = true := decide_eq_true (by omega)
                have d5' : decide ((0 : Int) < (k : Int)) = true := decide_eq_true (by omega)
                have d5'' : decide (0 < k) = true := decide_eq_true (by omega)
                obtain ⟨bj, oj, hAj, hbj, hcj⟩ := hE10.rd j (by omega)
                cases hAj
                generalize gE E j = ej at *
                obtain ⟨jf, ja, jt⟩ := ej
                have hkj : (k : Int) - 1 = (j : Int) := by omega
                have hkw : IntKind.i64.wrap ((k : Int) - 1) = (j : Int) := by rw [hkj]; exact IntWalk.i64_in _ (by omega)
                have hj0 : (0 : Int) ≤ (j : Int) := by omega
                have hj1 : (j : Int) < (E.length : Int) := by omega
                have hj' := Lib.hid hj
                clear hj hnx
                rcases hlt with h1 | ⟨h1, h2⟩
                · simp only at h1 hcj
                  have d6 : decide (jf > ef) = false := decide_eq_false (by omega)
                  have d6' : decide (ef < jf) = false := decide_eq_false (by omega)
                  have d7 : (jf == ef) = false := by rw [beq_eq_false_iff_ne]; omega
                  go_wp2
                  change Code.wp _ _ _ (Act.mk _ _) _
                  refine wp_region_quiet_below (by kernel_rfl) (by kernel_rfl) ?_
                  repeat (first
                    | go_big_quiet_skip
                    | (go_big_quiet_want; first
                        | (go_big_quiet_op; go_big_quiet_on)
                        | ((first
                            | refine q_go ⟨_, ⟨0, #[]⟩, rfl⟩ (fun K' hk => q_load1 _ _ rfl ⟨be, oe + k * 3, none⟩ rfl _ Tryd.underlying3 _ (fun W hW => (hce10 W (below_of_grow hW)).1) hk) ?_
                            | refine q_go ⟨_, ⟨0, #[]⟩, rfl⟩ (fun K' hk => q_load1 _ _ rfl ⟨be, oe + k * 3 + 1, none⟩ rfl _ Tryd.underlying3 _ (fun W hW => (hce10 W (below_of_grow hW)).2.1) hk) ?_
                            | refine q_go ⟨_, ⟨0, #[]⟩, rfl⟩ (fun K' hk => q_load1 _ _ rfl ⟨be, oe + j * 3, none⟩ rfl _ Tryd.underlying3 _ (fun W hW => (hcj W (below_of_grow hW)).1) hk) ?_
                            | refine q_go ⟨_, ⟨0, #[]⟩, rfl⟩ (fun K' hk => q_load1 _ _ rfl ⟨be, oe + j * 3 + 1, none⟩ rfl _ Tryd.underlying3 _ (fun W hW => (hcj W (below_of_grow hW)).2.1) hk) ?_); go_big_quiet_op; go_big_quiet_on)))
                  refine wpQuiet_nil ?_
                  intro W11 hW11'
                  have hW11 := below_of_grow hW11'
                  clear hW11'
                  have hs11 := blk_below hW11 hs10 (blk_lt hs10)
                  have hB11 := hB10.trans (hW11.mono hB10.size)
                  have hE11 := hE10.below hW11
                  have hC11 := hC10.below hW11
                  go_wp2
                  go_roundw
                  case rel => exact ⟨k + 1, by omega, by go_num, by rw [hstep.out, if_pos hpt]; go_num, hs11, hB11, hE11, hC11⟩
                  case measure => simp [intOf]; omega
                · simp only at h1 h2 hcj
                  subst h1
                  have d6 : decide (jf > jf) = false := decide_eq_false (by omega)
                  have d6' : decide (jf < jf) = false := decide_eq_false (by omega)
                  have d7 : (jf == jf) = true := by simp
                  have d8 : decide (ja ≥ ea) = false := decide_eq_false (by omega)
                  have d8' : decide (ea ≤ ja) = false := decide_eq_false (by omega)
                  go_wp2
                  change Code.wp _ _ _ (Act.mk _ _) _
                  refine wp_region_quiet_below (by kernel_rfl) (by kernel_rfl) ?_
                  repeat (first
                    | go_big_quiet_skip
                    | (go_big_quiet_want; first
                        | (go_big_quiet_op; go_big_quiet_on)
                        | ((first
                            | refine q_go ⟨_, ⟨0, #[]⟩, rfl⟩ (fun K' hk => q_load1 _ _ rfl ⟨be, oe + k * 3, none⟩ rfl _ Tryd.underlying3 _ (fun W hW => (hce10 W (below_of_grow hW)).1) hk) ?_
                            | refine q_go ⟨_, ⟨0, #[]⟩, rfl⟩ (fun K' hk => q_load1 _ _ rfl ⟨be, oe + k * 3 + 1, none⟩ rfl _ Tryd.underlying3 _ (fun W hW => (hce10 W (below_of_grow hW)).2.1) hk) ?_
                            | refine q_go ⟨_, ⟨0, #[]⟩, rfl⟩ (fun K' hk => q_load1 _ _ rfl ⟨be, oe + j * 3, none⟩ rfl _ Tryd.underlying3 _ (fun W hW => (hcj W (below_of_grow hW)).1) hk) ?_
                            | refine q_go ⟨_, ⟨0, #[]⟩, rfl⟩ (fun K' hk => q_load1 _ _ rfl ⟨be, oe + j * 3 + 1, none⟩ rfl _ Tryd.underlying3 _ (fun W hW => (hcj W (below_of_grow hW)).2.1) hk) ?_); go_big_quiet_op; go_big_quiet_on)))
                  refine wpQuiet_nil ?_
                  intro W11 hW11'
                  have hW11 := below_of_grow hW11'
                  clear hW11'
                  have hs11 := blk_below hW11 hs10 (blk_lt hs10)
                  have hB11 := hB10.trans (hW11.mono hB10.size)
                  have hE11 := hE10.below hW11
                  have hC11 := hC10.below hW11
                  go_wp2
                  go_roundw
                  case rel => exact ⟨k + 1, by omega, by go_num, by rw [hstep.out, if_pos hpt]; go_num, hs11, hB11, hE11, hC11⟩
                  case measure => simp [intOf]; omega
            · have d2 : decide ((I.length : Int) > 1) = false := decide_eq_false (by omega)
              have d2' : decide ((1 : Int) < (I.length : Int)) = false := decide_eq_false (by omega)
              have hpt : p ⟨ef, ea, et⟩ = false := by rw [hcr, decide_eq_true q1, decide_eq_false q2]; rfl
              refine tree_look ?_
              dsimp only [pickL, nthO]
              repeat (first
                | go_big_quiet_skip
                | (go_big_quiet_want; go_big_quiet_op; go_big_quiet_on))
              refine wpQuiet_nil ?_
              refine tree_done ?_
              have hs9 := blk_below hb9 hs6 (blk_lt hs6)
              have hB9 := hB6.trans (hb9.mono hB6.size)
              have hE9 := hE6.below hb9
              have hC9 := hC6.below hb9
              have hce9 := fun W (hW : Below W8.heap.size W8 W) => hce W (hb9.trans (hW.mono hb9.size))
              clear hdr hb7' qF qI hs6 hB6 hE6 hce hb9 hcr
              clear hfa hC6
              go_wp2
              change Code.wp _ _ _ (Act.mk _ _) _
              refine wp_region_quiet_below (by kernel_rfl) (by kernel_rfl) ?_
              repeat (first
                | go_big_quiet_skip
                | (go_big_quiet_want; go_big_quiet_op; go_big_quiet_on))
              refine wpQuiet_nil ?_
              intro W10 hW10'
              have hW10 := below_of_grow hW10'
              clear hW10'
              have hs10 := blk_below hW10 hs9 (blk_lt hs9)
              have hB10 := hB9.trans (hW10.mono hB9.size)
              have hE10 := hE9.below hW10
              have hC10 := hC9.below hW10
              have hce10 := fun W (hW : Below W10.heap.size W10 W) => hce9 W (hW10.trans (hW.mono hW10.size))
              clear hs9 hB9 hE9 hC9 hce9 hW10
              by_cases hk00 : k = 0
              · have d5 : decide ((k : Int) > 0) = false := decide_eq_false (by omega)
                have d5' : decide ((0 : Int) < (k : Int)) = false := decide_eq_false (by omega)
                have d5'' : decide (0 < k) = false := decide_eq_false (by omega)
                clear hnx hk00
                go_wp2
                change Code.wp _ _ _ (Act.mk _ _) _
                refine wp_region_quiet_below (by kernel_rfl) (by kernel_rfl) ?_
                repeat (first
                  | go_big_quiet_skip
                  | (go_big_quiet_want; go_big_quiet_op; go_big_quiet_on))
                refine wpQuiet_nil ?_
                intro W11 hW11'
                have hW11 := below_of_grow hW11'
                clear hW11'
                have hs11 := blk_below hW11 hs10 (blk_lt hs10)
                have hB11 := hB10.trans (hW11.mono hB10.size)
                have hE11 := hE10.below hW11
                have hC11 := hC10.below hW11
                go_wp2
                go_roundw
                case rel => exact ⟨k + 1, by omega, by go_num, by rw [hstep.out, if_neg (by rw [hpt]; decide)]; rfl, hs11, hB11, hE11, hC11⟩
                case measure => simp [intOf]; omega
              · obtain ⟨j, hj⟩ : ∃ j, j + 1 = k := ⟨k - 1, by omega⟩
                have hlt := hnx j hj
                have d5 : decide ((k : Int) > 0) = true := decide_eq_true (by omega)
                have d5' : decide ((0 : Int) < (k : Int)) = true := decide_eq_true (by omega)
                have d5'' : decide (0 < k) = true := decide_eq_true (by omega)
                obtain ⟨bj, oj, hAj, hbj, hcj⟩ := hE10.rd j (by omega)
                cases hAj
                generalize gE E j = ej at *
                obtain ⟨jf, ja, jt⟩ := ej
                have hkj : (k : Int) - 1 = (j : Int) := by omega
                have hkw : IntKind.i64.wrap ((k : Int) - 1) = (j : Int) := by rw [hkj]; exact IntWalk.i64_in _ (by omega)
                have hj0 : (0 : Int) ≤ (j : Int) := by omega
                have hj1 : (j : Int) < (E.length : Int) := by omega
                have hj' := Lib.hid hj
                clear hj hnx
                rcases hlt with h1 | ⟨h1, h2⟩
                · simp only at h1 hcj
                  have d6 : decide (jf > ef) = false := decide_eq_false (by omega)
                  have d6' : decide (ef < jf) = false := decide_eq_false (by omega)
                  have d7 : (jf == ef) = false := by rw [beq_eq_false_iff_ne]; omega
                  go_wp2
                  change Code.wp _ _ _ (Act.mk _ _) _
                  refine wp_region_quiet_below (by kernel_rfl) (by kernel_rfl) ?_
                  repeat (first
                    | go_big_quiet_skip
                    | (go_big_quiet_want; first
                        | (go_big_quiet_op; go_big_quiet_on)
                        | ((first
                            | refine q_go ⟨_, ⟨0, #[]⟩, rfl⟩ (fun K' hk => q_load1 _ _ rfl ⟨be, oe + k * 3, none⟩ rfl _ Tryd.underlying3 _ (fun W hW => (hce10 W (below_of_grow hW)).1) hk) ?_
                            | refine q_go ⟨_, ⟨0, #[]⟩, rfl⟩ (fun K' hk => q_load1 _ _ rfl ⟨be, oe + k * 3 + 1, none⟩ rfl _ Tryd.underlying3 _ (fun W hW => (hce10 W (below_of_grow hW)).2.1) hk) ?_
                            | refine q_go ⟨_, ⟨0, #[]⟩, rfl⟩ (fun K' hk => q_load1 _ _ rfl ⟨be, oe + j * 3, none⟩ rfl _ Tryd.underlying3 _ (fun W hW => (hcj W (below_of_grow hW)).1) hk) ?_
                            | refine q_go ⟨_, ⟨0, #[]⟩, rfl⟩ (fun K' hk => q_load1 _ _ rfl ⟨be, oe + j * 3 + 1, none⟩ rfl _ Tryd.underlying3 _ (fun W hW => (hcj W (below_of_grow hW)).2.1) hk) ?_); go_big_quiet_op; go_big_quiet_on)))
                  refine wpQuiet_nil ?_
                  intro W11 hW11'
                  have hW11 := below_of_grow hW11'
                  clear hW11'
                  have hs11 := blk_below hW11 hs10 (blk_lt hs10)
                  have hB11 := hB10.trans (hW11.mono hB10.size)
                  have hE11 := hE10.below hW11
                  have hC11 := hC10.below hW11
                  go_wp2
                  go_roundw
                  case rel => exact ⟨k + 1, by omega, by go_num, by rw [hstep.out, if_neg (by rw [hpt]; decide)]; rfl, hs11, hB11, hE11, hC11⟩
                  case measure => simp [intOf]; omega
                · simp only at h1 h2 hcj
                  subst h1
                  have d6 : decide (jf > jf) = false := decide_eq_false (by omega)
                  have d6' : decide (jf < jf) = false := decide_eq_false (by omega)
                  have d7 : (jf == jf) = true := by simp
                  have d8 : decide (ja ≥ ea) = false := decide_eq_false (by omega)
                  have d8' : decide (ea ≤ ja) = false := decide_eq_false (by omega)
                  go_wp2
                  change Code.wp _ _ _ (Act.mk _ _) _
                  refine wp_region_quiet_below (by kernel_rfl) (by kernel_rfl) ?_
                  repeat (first
                    | go_big_quiet_skip
                    | (go_big_quiet_want; first
                        | (go_big_quiet_op; go_big_quiet_on)
                        | ((first
                            | refine q_go ⟨_, ⟨0, #[]⟩, rfl⟩ (fun K' hk => q_load1 _ _ rfl ⟨be, oe + k * 3, none⟩ rfl _ Tryd.underlying3 _ (fun W hW => (hce10 W (below_of_grow hW)).1) hk) ?_
                            | refine q_go ⟨_, ⟨0, #[]⟩, rfl⟩ (fun K' hk => q_load1 _ _ rfl ⟨be, oe + k * 3 + 1, none⟩ rfl _ Tryd.underlying3 _ (fun W hW => (hce10 W (below_of_grow hW)).2.1) hk) ?_
                            | refine q_go ⟨_, ⟨0, #[]⟩, rfl⟩ (fun K' hk => q_load1 _ _ rfl ⟨be, oe + j * 3, none⟩ rfl _ Tryd.underlying3 _ (fun W hW => (hcj W (below_of_grow hW)).1) hk) ?_
                            | refine q_go ⟨_, ⟨0, #[]⟩, rfl⟩ (fun K' hk => q_load1 _ _ rfl ⟨be, oe + j * 3 + 1, none⟩ rfl _ Tryd.underlying3 _ (fun W hW => (hcj W (below_of_grow hW)).2.1) hk) ?_); go_big_quiet_op; go_big_quiet_on)))
                  refine wpQuiet_nil ?_
                  intro W11 hW11'
                  have hW11 := below_of_grow hW11'
                  clear hW11'
                  have hs11 := blk_below hW11 hs10 (blk_lt hs10)
                  have hB11 := hB10.trans (hW11.mono hB10.size)
                  have hE11 := hE10.below hW11
                  have hC11 := hC10.below hW11
                  go_wp2
                  go_roundw
                  case rel => exact ⟨k + 1, by omega, by go_num, by rw [hstep.out, if_neg (by rw [hpt]; decide)]; rfl, hs11, hB11, hE11, hC11⟩
                  case measure => simp [intOf]; omega
          · have d1 : decide ((F.length : Int) > 1) = false := decide_eq_false (by omega)
            have d1' : decide ((1 : Int) < (F.length : Int)) = false := decide_eq_false (by omega)
            have hpt : p ⟨ef, ea, et⟩ = false := by rw [hcr, decide_eq_false q1]; rfl
            go_wp2
            change Code.wp _ _ _ (Act.mk _ _) _
            refine wp_region_tree (S := fun W => ∃ p : Regrown, W = Sort.grow (redrawn wr p.d) p.os) (.look [0, 1, 2, 3, 4, 5] (.one 6 (.look [7, 8, 9, 10, 11, 12, 13, 14, 15] (.one 16 (.look [17, 18, 19, 20] .done))))) (by kernel_rfl) (by kernel_rfl) (regrown_of_below hdr) (fun d _ _ _ _ h => by cases d <;> exact h) ?_
            refine tree_look ?_
            dsimp only [pickL, nthO]
            repeat (first
              | go_big_quiet_skip
              | (go_big_quiet_want; first
                  | (go_big_quiet_op; go_big_quiet_on)
                  | ((first
                      | refine q_go ⟨_, ⟨0, #[]⟩, rfl⟩ (fun K' hk => q_load _ _ rfl _ rfl _ _ _ _ (fun W hW => blk_below (below_of_grow hW) hs6 (blk_lt hs6)) Tryd.underlying38 rfl (by kernel_rfl) hk) ?_
                      | refine q_go ⟨_, ⟨0, #[]⟩, rfl⟩ (fun K' hk => q_load1 _ _ rfl ⟨be, oe + k * 3, none⟩ rfl _ Tryd.underlying3 _ (fun W hW => (hce W (below_of_grow hW)).1) hk) ?_); go_big_quiet_op; go_big_quiet_on)))
            refine wpQuiet_nil ?_
            refine tree_one rfl ?_
            go_wp2_with fail
            refine (qF _ (hB6.trans (hdr.mono hB6.size))).mono ?_
            rintro e W7 ⟨v7, rfl, ho7, hn7, hb7⟩
            obtain ⟨A7, c7, rfl⟩ := own_form ho7
            have hb7' := hdr.trans hb7
            clear ho7 hn7 hb7
            go_wp2
            refine ⟨regrown_of_below hb7', ?_⟩
            refine tree_look ?_
            dsimp only [pickL, nthO]
            repeat (first
              | go_big_quiet_skip
              | (go_big_quiet_want; go_big_quiet_op; go_big_quiet_on))
            refine wpQuiet_nil ?_
            refine tree_one rfl ?_
            go_wp2
            refine ⟨regrown_of_below hb7', ?_⟩
            refine tree_look ?_
            dsimp only [pickL, nthO]
            repeat (first
              | go_big_quiet_skip
              | (go_big_quiet_want; go_big_quiet_op; go_big_quiet_on))
            refine wpQuiet_nil ?_
            refine tree_done ?_
            have hb9 := hb7'
            have hs9 := blk_below hb9 hs6 (blk_lt hs6)
            have hB9 := hB6.trans (hb9.mono hB6.size)
            have hE9 := hE6.below hb9
            have hC9 := hC6.below hb9
            have hce9 := fun W (hW : Below W7.heap.size W7 W) => hce W (hb9.trans (hW.mono hb9.size))
            clear hdr hb7' qF qI hs6 hB6 hE6 hce hb9 hcr
            clear hfa hC6
            go_wp2
            change Code.wp _ _ _ (Act.mk _ _) _
            refine wp_region_quiet_below (by kernel_rfl) (by kernel_rfl) ?_
            repeat (first
              | go_big_quiet_skip
              | (go_big_quiet_want; go_big_quiet_op; go_big_quiet_on))
            refine wpQuiet_nil ?_
            intro W10 hW10'
            have hW10 := below_of_grow hW10'
            clear hW10'
            have hs10 := blk_below hW10 hs9 (blk_lt hs9)
            have hB10 := hB9.trans (hW10.mono hB9.size)
            have hE10 := hE9.below hW10
            have hC10 := hC9.below hW10
            have hce10 := fun W (hW : Below W10.heap.size W10 W) => hce9 W (hW10.trans (hW.mono hW10.size))
            clear hs9 hB9 hE9 hC9 hce9 hW10
            by_cases hk00 : k = 0
            · have d5 : decide ((k : Int) > 0) = false := decide_eq_false (by omega)
              have d5' : decide ((0 : Int) < (k : Int)) = false := decide_eq_false (by omega)
              have d5'' : decide (0 < k) = false := decide_eq_false (by omega)
              clear hnx hk00
              go_wp2
              change Code.wp _ _ _ (Act.mk _ _) _
              refine wp_region_quiet_below (by kernel_rfl) (by kernel_rfl) ?_
              repeat (first
                | go_big_quiet_skip
                | (go_big_quiet_want; go_big_quiet_op; go_big_quiet_on))
              refine wpQuiet_nil ?_
              intro W11 hW11'
              have hW11 := below_of_grow hW11'
              clear hW11'
              have hs11 := blk_below hW11 hs10 (blk_lt hs10)
              have hB11 := hB10.trans (hW11.mono hB10.size)
              have hE11 := hE10.below hW11
              have hC11 := hC10.below hW11
              go_wp2
              go_roundw
              case rel => exact ⟨k + 1, by omega, by go_num, by rw [hstep.out, if_neg (by rw [hpt]; decide)]; rfl, hs11, hB11, hE11, hC11⟩
              case measure => simp [intOf]; omega
            · obtain ⟨j, hj⟩ : ∃ j, j + 1 = k := ⟨k - 1, by omega⟩
              have hlt := hnx j hj
              have d5 : decide ((k : Int) > 0) = true := decide_eq_true (by omega)
              have d5' : decide ((0 : Int) < (k : Int)) = true := decide_eq_true (by omega)
              have d5'' : decide (0 < k) = true := decide_eq_true (by omega)
              obtain ⟨bj, oj, hAj, hbj, hcj⟩ := hE10.rd j (by omega)
              cases hAj
              generalize gE E j = ej at *
              obtain ⟨jf, ja, jt⟩ := ej
              have hkj : (k : Int) - 1 = (j : Int) := by omega
              have hkw : IntKind.i64.wrap ((k : Int) - 1) = (j : Int) := by rw [hkj]; exact IntWalk.i64_in _ (by omega)
              have hj0 : (0 : Int) ≤ (j : Int) := by omega
              have hj1 : (j : Int) < (E.length : Int) := by omega
              have hj' := Lib.hid hj
              clear hj hnx
              rcases hlt with h1 | ⟨h1, h2⟩
              · simp only at h1 hcj
                have d6 : decide (jf > ef) = false := decide_eq_false (by omega)
                have d6' : decide (ef < jf) = false := decide_eq_false (by omega)
                have d7 : (jf == ef) = false := by rw [beq_eq_false_iff_ne]; omega
                go_wp2
                change Code.wp _ _ _ (Act.mk _ _) _
                refine wp_region_quiet_below (by kernel_rfl) (by kernel_rfl) ?_
                repeat (first
                  | go_big_quiet_skip
                  | (go_big_quiet_want; first
                      | (go_big_quiet_op; go_big_quiet_on)
                      | ((first
                          | refine q_go ⟨_, ⟨0, #[]⟩, rfl⟩ (fun K' hk => q_load1 _ _ rfl ⟨be, oe + k * 3, none⟩ rfl _ Tryd.underlying3 _ (fun W hW => (hce10 W (below_of_grow hW)).1) hk) ?_
                          | refine q_go ⟨_, ⟨0, #[]⟩, rfl⟩ (fun K' hk => q_load1 _ _ rfl ⟨be, oe + k * 3 + 1, none⟩ rfl _ Tryd.underlying3 _ (fun W hW => (hce10 W (below_of_grow hW)).2.1) hk) ?_
                          | refine q_go ⟨_, ⟨0, #[]⟩, rfl⟩ (fun K' hk => q_load1 _ _ rfl ⟨be, oe + j * 3, none⟩ rfl _ Tryd.underlying3 _ (fun W hW => (hcj W (below_of_grow hW)).1) hk) ?_
                          | refine q_go ⟨_, ⟨0, #[]⟩, rfl⟩ (fun K' hk => q_load1 _ _ rfl ⟨be, oe + j * 3 + 1, none⟩ rfl _ Tryd.underlying3 _ (fun W hW => (hcj W (below_of_grow hW)).2.1) hk) ?_); go_big_quiet_op; go_big_quiet_on)))
                refine wpQuiet_nil ?_
                intro W11 hW11'
                have hW11 := below_of_grow hW11'
                clear hW11'
                have hs11 := blk_below hW11 hs10 (blk_lt hs10)
                have hB11 := hB10.trans (hW11.mono hB10.size)
                have hE11 := hE10.below hW11
                have hC11 := hC10.below hW11
                go_wp2
                go_roundw
                case rel => exact ⟨k + 1, by omega, by go_num, by rw [hstep.out, if_neg (by rw [hpt]; decide)]; rfl, hs11, hB11, hE11, hC11⟩
                case measure => simp [intOf]; omega
              · simp only at h1 h2 hcj
                subst h1
                have d6 : decide (jf > jf) = false := decide_eq_false (by omega)
                have d6' : decide (jf < jf) = false := decide_eq_false (by omega)
                have d7 : (jf == jf) = true := by simp
                have d8 : decide (ja ≥ ea) = false := decide_eq_false (by omega)
                have d8' : decide (ea ≤ ja) = false := decide_eq_false (by omega)
                go_wp2
                change Code.wp _ _ _ (Act.mk _ _) _
                refine wp_region_quiet_below (by kernel_rfl) (by kernel_rfl) ?_
                repeat (first
                  | go_big_quiet_skip
                  | (go_big_quiet_want; first
                      | (go_big_quiet_op; go_big_quiet_on)
                      | ((first
                          | refine q_go ⟨_, ⟨0, #[]⟩, rfl⟩ (fun K' hk => q_load1 _ _ rfl ⟨be, oe + k * 3, none⟩ rfl _ Tryd.underlying3 _ (fun W hW => (hce10 W (below_of_grow hW)).1) hk) ?_
                          | refine q_go ⟨_, ⟨0, #[]⟩, rfl⟩ (fun K' hk => q_load1 _ _ rfl ⟨be, oe + k * 3 + 1, none⟩ rfl _ Tryd.underlying3 _ (fun W hW => (hce10 W (below_of_grow hW)).2.1) hk) ?_
                          | refine q_go ⟨_, ⟨0, #[]⟩, rfl⟩ (fun K' hk => q_load1 _ _ rfl ⟨be, oe + j * 3, none⟩ rfl _ Tryd.underlying3 _ (fun W hW => (hcj W (below_of_grow hW)).1) hk) ?_
                          | refine q_go ⟨_, ⟨0, #[]⟩, rfl⟩ (fun K' hk => q_load1 _ _ rfl ⟨be, oe + j * 3 + 1, none⟩ rfl _ Tryd.underlying3 _ (fun W hW => (hcj W (below_of_grow hW)).2.1) hk) ?_); go_big_quiet_op; go_big_quiet_on)))
                refine wpQuiet_nil ?_
                intro W11 hW11'
                have hW11 := below_of_grow hW11'
                clear hW11'
                have hs11 := blk_below hW11 hs10 (blk_lt hs10)
                have hB11 := hB10.trans (hW11.mono hB10.size)
                have hE11 := hE10.below hW11
                have hC11 := hC10.below hW11
                go_wp2
                go_roundw
                case rel => exact ⟨k + 1, by omega, by go_num, by rw [hstep.out, if_neg (by rw [hpt]; decide)]; rfl, hs11, hB11, hE11, hC11⟩
                case measure => simp [intOf]; omega
        · obtain rfl : k = E.length := by omega
          have hd3 : decide ((E.length : Int) < (E.length : Int)) = false := by simp
          rw [List.take_length]
          clear hfl
          have hdr : Below wr.heap.size wr wr.drew := (Below.refl _ _).drew
          have hx6 := hx.ri.below hB6
          have hy6 := hy.ri.below hB6
          have hT6 := hT.below hB6
          have hxc := hx.cap
          have hxn : B = none → xs = [] := fun e => by subst e; exact hx.none_nil.1
          have hyn : C = none → ys = [] := fun e => by subst e; exact hy.none_nil.1
          clear hE6 hC6
          go_wp2
          change Code.wp _ _ _ (Act.mk _ _) _
          refine wp_region_tree (S := fun W => ∃ p : Regrown, W = Sort.grow (redrawn wr p.d) p.os) (.look [0, 1, 3, 4] (.one 2 (.one 5 (.look [6, 7] .done)))) (by kernel_rfl) (by kernel_rfl) (regrown_of_below hdr) (fun d _ _ _ _ h => by cases d <;> exact h) ?_
          refine tree_look ?_
          dsimp only [pickL, nthO]
          repeat (first
            | go_big_quiet_skip
            | (go_big_quiet_want; first
                | (go_big_quiet_op; go_big_quiet_on)
                | (refine q_go ⟨_, ⟨0, #[]⟩, rfl⟩ (fun K' hk => q_load _ _ rfl _ rfl _ _ _ _ (fun W hW => blk_below (below_of_grow hW) hs6 (blk_lt hs6)) Tryd.underlying38 rfl (by kernel_rfl) hk) ?_; go_big_quiet_op; go_big_quiet_on)))
          refine wpQuiet_nil ?_
          refine tree_one rfl ?_
          go_wp2_with fail
          refine (Reached_all P A B none c cb 0 bs xs [] _ (hT6.below hdr) (hF.rf.below (hB6.trans (hdr.mono hB6.size))) (hx6.below hdr) (RI.nil _ _)).mono ?_
          rintro e W7 ⟨ra, hra, v7, rfl, ho7, hn7, hb7⟩
          have hb7' := hdr.trans hb7
          obtain ⟨A7, c7, rfl, hc7, hr7⟩ := own_RI ho7 hra.i64 (by have := hra.len; omega)
          clear ho7 hn7 hb7
          go_wp2
          refine ⟨regrown_of_below hb7', ?_⟩
          refine tree_one rfl ?_
          go_wp2_with fail
          refine (Reached_all P A C none c cc 0 bs ys [] _ (hT6.below hb7') (hF.rf.below (hB6.trans (hb7'.mono hB6.size))) (hy6.below hb7') (RI.nil _ _)).mono ?_
          rintro e W8 ⟨rb, hrb, v8, rfl, ho8, hn8, hb8⟩
          have hb8' := hb7'.trans (hb8.mono hb7'.size)
          have hr7' := hr7.below hb8
          obtain ⟨A8, c8, rfl, hc8, hr8⟩ := own_RI ho8 hrb.i64 (by have := hrb.len; omega)
          clear ho8 hn8 hb8 hr7 hb7'
          go_wp2
          refine ⟨regrown_of_below hb8', ?_⟩
          refine tree_look ?_
          dsimp only [pickL, nthO]
          repeat (first
            | go_big_quiet_skip
            | (go_big_quiet_want; go_big_quiet_op; go_big_quiet_on))
          refine wpQuiet_nil ?_
          refine tree_done ?_
          have hs8 := blk_below hb8' hs6 (blk_lt hs6)
          have hB8 := hB6.trans (hb8'.mono hB6.size)
          have hx8 := hx6.below hb8'
          have hy8 := hy6.below hb8'
          have hT8 := hT6.below hb8'
          clear hdr hx6 hy6 hT6 hs6 hB6 hb8'
          have hdr : Below W8.heap.size W8 W8.drew := (Below.refl _ _).drew
          go_wp2
          change Code.wp _ _ _ (Act.mk _ _) _
          refine wp_region_tree (S := fun W => ∃ p : Regrown, W = Sort.grow (redrawn W8 p.d) p.os) (.look [0, 2, 4] (.one 1 (.one 3 (.one 5 (.one 6 (.look [7] .done)))))) (by kernel_rfl) (by kernel_rfl) (regrown_of_below hdr) (fun d _ _ _ _ h => by cases d <;> exact h) ?_
          refine tree_look ?_
          dsimp only [pickL, nthO]
          repeat (first
            | go_big_quiet_skip
            | (go_big_quiet_want; first
                | (go_big_quiet_op; go_big_quiet_on)
                | (refine q_go ⟨_, ⟨0, #[]⟩, rfl⟩ (fun K' hk => q_load _ _ rfl _ rfl _ _ _ _ (fun W hW => blk_below (below_of_grow hW) hs8 (blk_lt hs8)) Tryd.underlying38 rfl (by kernel_rfl) hk) ?_; go_big_quiet_op; go_big_quiet_on)))
          refine wpQuiet_nil ?_
          refine tree_one rfl ?_
          go_wp2
          have hbA := ((Below.refl W8.heap.size W8).alloc (Nat.le_refl _) (.cells #[] 3)).drew
          have oW : ((W8.alloc (.cells #[] 3)).drew).ownsRow W8.heap.size 3 1 (.slice (some ⟨W8.heap.size, 0, none⟩) 0 0) ([] : List Int).length (([] : List Int).map (Value.int .i64)) := World.ownsRow_made (base := W8.heap.size) (e := 3) (size := 1) W8 #[] 0 (Nat.le_refl _) (by decide) rfl
          refine ⟨regrown_of_below hbA, ?_⟩
          refine tree_one rfl ?_
          refine wpList_app rfl _ _ rfl W8.heap.size _ rfl [] oW _ _ _ rfl xs rfl (hx8.below hbA) hxn hbA.size (by simp; omega) ?_
          intro v9 W9 ho9 hb9
          have hb9' := hbA.trans hb9
          rw [List.nil_append] at ho9
          refine ⟨regrown_of_below hb9', ?_⟩
          refine tree_one rfl ?_
          refine wpList_app rfl _ _ rfl W8.heap.size _ rfl xs ho9 _ _ _ rfl ys rfl (hy8.below hb9') hyn hb9'.size (by omega) ?_
          intro v10 W10 ho10 hb10
          have hb10' := hb9'.trans hb10
          have hxy : ∀ x ∈ xs ++ ys, I64 x := fun x hxm => by
            rcases List.mem_append.1 hxm with h | h
            · exact I64.of_mem hx.ri.rng h
            · exact I64.of_mem hy.ri.rng h
          have hzl : (xs ++ ys).length = xs.length + ys.length := List.length_append
          obtain ⟨zs, hzs⟩ : ∃ zs, xs ++ ys = zs := ⟨_, rfl⟩
          rw [hzs] at ho10 hxy hzl
          obtain ⟨A10, c10, rfl, hc10, hr10⟩ := own_RI ho10 hxy (by omega)
          have hzs' := Lib.hid hzs
          have hzl' := Lib.hid hzl
          clear hzs hzl
          clear ho10 ho9 hb9 hb10 oW hbA
          refine ⟨regrown_of_below hb10', ?_⟩
          refine tree_one rfl ?_
          go_wp2_with fail
          refine (Reached_all P A A10 none c c10 0 bs zs [] _ (hT8.below hb10') (hF.rf.below (hB8.trans (hb10'.mono hB8.size))) hr10 (RI.nil _ _)).mono ?_
          rintro e W11 ⟨rr, hrr, v11, rfl, ho11, hn11, hb11⟩
          have hb11' := hb10'.trans (hb11.mono hb10'.size)
          obtain ⟨A11, c11, rfl, hc11, hr11⟩ := own_RI ho11 hrr.i64 (by have := hrr.len; omega)
          clear ho11 hn11 hb11 hr10 hxy
          go_wp2
          refine ⟨regrown_of_below hb11', ?_⟩
          refine tree_look ?_
          dsimp only [pickL, nthO]
          repeat (first
            | go_big_quiet_skip
            | (go_big_quiet_want; go_big_quiet_op; go_big_quiet_on))
          refine wpQuiet_nil ?_
          refine tree_done ?_
          have hB11 := hB8.trans (hb11'.mono hB8.size)
          have hra11 := hr7'.below hb11'
          have hrb11 := hr8.below hb11'
          rw [← hzs'.out] at hrr
          obtain ⟨law1, law2⟩ := RIs.both hF.rf.ok hra hrb hrr
          have lra := hra.len
          have lrb := hrb.len
          have lrr := hrr.len
          clear hdr hx8 hy8 hT8 hs8 hB8 hb11' hr7' hr8 hb9' hb10' hra hrb hrr hxn hyn
          go_wp2
          change Code.wp _ _ _ (Act.mk _ _) _
          obtain ⟨wq, rfl⟩ : ∃ wq : World, wq = W11 := ⟨_, rfl⟩
          go_loopw [18] (fun i wr => ∃ k : Nat, k ≤ rr.length ∧ i = .int .i64 k ∧ wr = wq) (fun i _ => rr.length - (intOf i).toNat)
          case atStart => exact ⟨0, Nat.zero_le _, rfl, rfl⟩
          case round =>
            obtain ⟨k, hk, rfl, rfl⟩ := hrel
            by_cases hkl : k < rr.length
            · have hd4 : decide ((k : Int) < (rr.length : Int)) = true := decide_eq_true (by omega)
              obtain ⟨br, or_, hAr, hbr, hcr, hxr⟩ := hr11.at_ hkl
              subst hAr
              have hmm := law1 _ (gI_mem hkl)
              by_cases hpa : gI rr k ∈ ra
              · have hp := placeI_nonneg.2 hpa
                have hpd : decide (placeI ra (gI rr k) < 0) = false := decide_eq_false (by omega)
                clear hmm hpa
                go_wp2_with fail
                refine (place_any _ _ ra (gI rr k) _ hra11).mono ?_
                rintro e W12 ⟨rfl, rfl⟩
                clear hp
                go_wp2
                go_roundw
                case rel => exact ⟨k + 1, by omega, by go_num, by trivial⟩
                case measure => simp [intOf]; omega
              · have hp := placeI_nonneg.2 (hmm.resolve_left hpa)
                have hpn := placeI_none (l := ra) (b := gI rr k) (by cases hq : ra.contains (gI rr k); rfl; exact absurd (List.contains_iff_mem.1 hq) hpa)
                have hpd : decide (placeI rb (gI rr k) < 0) = false := decide_eq_false (by omega)
                have q := place_any _ c7 ra (gI rr k) _ hra11
                rw [hpn] at q
                clear hmm hpa hpn
                go_wp2_with fail
                refine q.mono ?_
                rintro e W12 ⟨rfl, rfl⟩
                clear q
                go_wp2_with fail
                refine (place_any _ _ rb (gI rr k) _ hrb11).mono ?_
                rintro e W12 ⟨rfl, rfl⟩
                clear hp
                go_wp2
                go_roundw
                case rel => exact ⟨k + 1, by omega, by go_num, by trivial⟩
                case measure => simp [intOf]; omega
            · obtain rfl : k = rr.length := by omega
              have hd4 : decide ((rr.length : Int) < (rr.length : Int)) = false := by simp
              go_wp2
              change Code.wp _ _ _ (Act.mk _ _) _
              obtain ⟨wz, rfl⟩ : ∃ wz : World, wz = wr := ⟨_, rfl⟩
              go_loopw [19] (fun i wr => ∃ k : Nat, k ≤ ra.length ∧ i = .int .i64 k ∧ wr = wz) (fun i _ => ra.length - (intOf i).toNat)
              case atStart => exact ⟨0, Nat.zero_le _, rfl, rfl⟩
              case round =>
                obtain ⟨k, hk, rfl, rfl⟩ := hrel
                by_cases hkl : k < ra.length
                · have hd5 : decide ((k : Int) < (ra.length : Int)) = true := decide_eq_true (by omega)
                  obtain ⟨br, or_, hAr, hbr, hcr, hxr⟩ := hra11.at_ hkl
                  subst hAr
                  have hp := placeI_nonneg.2 (law2 _ (gI_mem hkl))
                  have hpd : decide (placeI rr (gI ra k) < 0) = false := decide_eq_false (by omega)
                  go_wp2_with fail
                  refine (place_any _ _ rr (gI ra k) _ hr11).mono ?_
                  rintro e W12 ⟨rfl, rfl⟩
                  clear hp
                  go_wp2
                  go_roundw
                  case rel => exact ⟨k + 1, by omega, by go_num, by trivial⟩
                  case measure => simp [intOf]; omega
                · obtain rfl : k = ra.length := by omega
                  have hd5 : decide ((ra.length : Int) < (ra.length : Int)) = false := by simp
                  go_wp2
                  go_ret
                  exact ⟨rfl, hB11⟩

end Go.Proofs.YtjichaeegheacaaDoor
