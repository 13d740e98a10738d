/-
  RefB RefC
-/
import Derived.Test.YtjichaeegheacaaGreatDoorFT15

/- RefB -/
/-
  The document's answer for package flow: Closed, Edges, Into, From, Critical.
-/
namespace Go.Proofs.YtjichaeegheacaaGreatDoor
open Go Go.RowKit

theorem closed_eq {bs : List Blk} (ho : OkBs bs) (h0 : 0 < bs.length) (h1 : bs.length ≤ 200) : closedB bs = (edgesOf bs).all fun e => decide (0 ≤ e.t ∧ e.t < bs.length) := by
  unfold closedB allN
  rw [decide_eq_true h0, decide_eq_true h1, Bool.and_true, Bool.and_true]
  rw [Bool.eq_iff_iff, List.all_eq_true, List.all_eq_true]
  constructor
  · intro h e he
    exact decide_eq_true ((inN_iff (edge_i64 ho (by omega) he).2.2 h1).1 (h e he))
  · intro h e he
    exact (inN_iff (edge_i64 ho (by omega) he).2.2 h1).2 (of_decide_eq_true (h e he))

set_option maxRecDepth 100000 in
set_option maxHeartbeats 2000000 in
theorem Closed10_any (P : Value) (A : Option Addr) (c : Nat) (bs : List Blk) (w : World) (hr : RF w A bs) (hl : bs.length ≤ 1000) :
    Calls Tryz.prog 12 #[.agg #[P, .slice A bs.length c]] w (Fresh w (.bool (closedB bs))) := by
  have hb0 := (Below.refl w.heap.size w).alloc (Nat.le_refl _) (.cells #[P, .slice A bs.length c] 25)
  have hs := blk_new w (.cells #[P, .slice A bs.length c] 25)
  by_cases h0 : bs.length < 1
  · have d1 : decide ((bs.length : Int) < 1) = true := decide_eq_true (by omega)
    have e : closedB bs = false := by
      unfold closedB
      rw [show decide (0 < bs.length) = false from decide_eq_false (by omega)]
      simp
    rw [e]
    clear e
    go_enter Tryz.func12, Tryz.ntmps12
    go_wp2
    go_ret
    exact ⟨rfl, hb0⟩
  · have d1 : decide ((bs.length : Int) < 1) = false := decide_eq_false (by omega)
    by_cases h2 : bs.length > 200
    · have d2 : decide ((bs.length : Int) > 200) = true := decide_eq_true (by omega)
      have e : closedB bs = false := by
        unfold closedB
        rw [show decide (bs.length ≤ 200) = false from decide_eq_false (by omega)]
        simp
      rw [e]
      clear e
      go_enter Tryz.func12, Tryz.ntmps12
      go_wp2
      go_ret
      exact ⟨rfl, hb0⟩
    · have d2 : decide ((bs.length : Int) > 200) = false := decide_eq_false (by omega)
      rw [closed_eq hr.ok (by omega) (by omega)]
      have hall := all10_any P A c bs _ (hr.below hb0) hl
      have hel := edgesTo_len bs bs.length
      rw [show edgesTo bs bs.length = edgesOf bs from rfl] at hel
      generalize edgesOf bs = es at *
      generalize hv : (es.all fun e => decide (0 ≤ e.t ∧ e.t < bs.length)) = v0
      have hv' := Lib.hid hv
      clear hv
      go_enter Tryz.func12, Tryz.ntmps12
      go_wp2_with (refine wpList_load_row rfl _ _ rfl _ rfl _ _ _ _ hs Tryz.underlying25 rfl (by kernel_rfl) ?_)
      refine hall.mono ?_
      intro e W1 hf
      obtain ⟨v, rfl, ho, hb1⟩ := OwnEds.mono hb0 hf
      obtain ⟨_, _, _, hbx⟩ := hf
      have hs1 := blk_below hbx hs (blk_lt hs)
      obtain ⟨A1, c1, rfl, _, hE⟩ := own_RE ho (by omega)
      clear ho hall
      go_wp2
      obtain ⟨w1, rfl⟩ : ∃ w1 : World, w1 = W1 := ⟨_, rfl⟩
      go_loopw [4] (fun v4 W => ∃ k : Nat, k ≤ es.length ∧ v4 = .int .i64 k ∧ (∀ i, i < k → 0 ≤ (gE es i).t ∧ (gE es i).t < bs.length) ∧ Below w1.heap.size w1 W) (fun v4 _ => es.length - (intOf v4).toNat)
      case atStart => exact ⟨0, Nat.zero_le _, rfl, fun i hi => absurd hi (Nat.not_lt_zero _), Below.refl _ _⟩
      case round =>
        obtain ⟨k, hk, rfl, hgood, hb⟩ := hrel
        by_cases hkl : k < es.length
        · have hd : decide ((k : Int) < (es.length : Int)) = true := decide_eq_true (by omega)
          have hk2 : (k : Int) < (es.length : Int) := by omega
          have hk4 : (0 : Int) ≤ (k : Int) := by omega
          obtain ⟨be, oe, rfl, hbe, hce⟩ := (hE.below hb).rd k hkl
          have hs2 := blk_below hb hs1 (blk_lt hs1)
          have hbW : ∀ W, Below wr.heap.size wr W → W.cell? ⟨w.heap.size, 1, none⟩ = some (.slice A bs.length c) := fun W hW => (cell_of_row _ _ 1 _ _ _ (blk_below hW hs2 (blk_lt hs2))).trans rfl
          have hmem := gE_mem hkl
          have hgn := fun (h : 0 ≤ (gE es k).t ∧ (gE es k).t < bs.length) i (hi : i < k + 1) => (show 0 ≤ (gE es i).t ∧ (gE es i).t < bs.length by
            by_cases e : i = k
            · rw [e]; exact h
            · exact hgood i (by omega))
          have hbad := fun (h : ¬ (0 ≤ (gE es k).t ∧ (gE es k).t < bs.length)) => (show (es.all fun e => decide (0 ≤ e.t ∧ e.t < bs.length)) = false by
            cases hq : (es.all fun e => decide (0 ≤ e.t ∧ e.t < bs.length)) with
            | false => rfl
            | true => exact absurd (of_decide_eq_true (List.all_eq_true.1 hq _ hmem)) h)
          have hgn' := Lib.hid hgn
          have hbad' := Lib.hid hbad
          have hgood' := Lib.hid hgood
          clear hgn hbad hgood hmem
          generalize (gE es k).t = t at *
          have hct : ∀ W, Below wr.heap.size wr W → W.cell? ⟨be, oe + k * 3 + 2, none⟩ = some (.int .i64 t) := fun W hW => (hce W hW).2.2
          clear hce hs2
          by_cases ht0 : t < 0
          · have d3 : decide (t < 0) = true := decide_eq_true ht0
            obtain rfl : v0 = false := hv'.out.symm.trans (hbad'.out (by omega))
            go_wp2
            change Code.wp _ _ _ (Act.mk _ _) _
            refine wp_region_quiet_below (by kernel_rfl) (by kernel_rfl) ?_
            repeat (first
              | go_big_quiet_skip
              | (go_big_quiet_want; first
                  | (go_big_quiet_op; go_big_quiet_on)
                  | ((first
                      | refine q_go ⟨_, ⟨0, #[]⟩, rfl⟩ (fun K' hk => q_load1 _ _ rfl ⟨be, oe + k * 3 + 2, none⟩ rfl _ Tryz.underlying3 _ (fun W hW => hct W (below_of_grow hW)) hk) ?_
                      | refine q_go ⟨_, ⟨0, #[]⟩, rfl⟩ (fun K' hk => q_loadS _ _ rfl ⟨w.heap.size, 1, none⟩ rfl _ Tryz.underlying23 _ (fun W hW => hbW W (below_of_grow hW)) hk) ?_); go_big_quiet_op; go_big_quiet_on)))
            refine wpQuiet_nil ?_
            intro W7 hW7'
            have hb2 := hb.trans ((below_of_grow hW7').mono hb.size)
            clear hW7' hct hbW
            go_wp2
            go_ret
            exact ⟨rfl, hb1.trans (hb2.mono hb1.size)⟩
          · have d3 : decide (t < 0) = false := decide_eq_false ht0
            by_cases htn : t ≥ bs.length
            · have d4 : decide (t ≥ (bs.length : Int)) = true := decide_eq_true htn
              have d5 : decide ((bs.length : Int) ≤ t) = true := decide_eq_true htn
              obtain rfl : v0 = false := hv'.out.symm.trans (hbad'.out (by omega))
              go_wp2
              change Code.wp _ _ _ (Act.mk _ _) _
              refine wp_region_quiet_below (by kernel_rfl) (by kernel_rfl) ?_
              repeat (first
              | go_big_quiet_skip
              | (go_big_quiet_want; first
                  | (go_big_quiet_op; go_big_quiet_on)
                  | ((first
                      | refine q_go ⟨_, ⟨0, #[]⟩, rfl⟩ (fun K' hk => q_load1 _ _ rfl ⟨be, oe + k * 3 + 2, none⟩ rfl _ Tryz.underlying3 _ (fun W hW => hct W (below_of_grow hW)) hk) ?_
                      | refine q_go ⟨_, ⟨0, #[]⟩, rfl⟩ (fun K' hk => q_loadS _ _ rfl ⟨w.heap.size, 1, none⟩ rfl _ Tryz.underlying23 _ (fun W hW => hbW W (below_of_grow hW)) hk) ?_); go_big_quiet_op; go_big_quiet_on)))
              refine wpQuiet_nil ?_
              intro W7 hW7'
              have hb2 := hb.trans ((below_of_grow hW7').mono hb.size)
              clear hW7' hct hbW
              go_wp2
              go_ret
              exact ⟨rfl, hb1.trans (hb2.mono hb1.size)⟩
            · have d4 : decide (t ≥ (bs.length : Int)) = false := decide_eq_false htn
              have d5 : decide ((bs.length : Int) ≤ t) = false := decide_eq_false htn
              have hg2 := Lib.hid (hgn'.out (by omega))
              go_wp2
              change Code.wp _ _ _ (Act.mk _ _) _
              refine wp_region_quiet_below (by kernel_rfl) (by kernel_rfl) ?_
              repeat (first
              | go_big_quiet_skip
              | (go_big_quiet_want; first
                  | (go_big_quiet_op; go_big_quiet_on)
                  | ((first
                      | refine q_go ⟨_, ⟨0, #[]⟩, rfl⟩ (fun K' hk => q_load1 _ _ rfl ⟨be, oe + k * 3 + 2, none⟩ rfl _ Tryz.underlying3 _ (fun W hW => hct W (below_of_grow hW)) hk) ?_
                      | refine q_go ⟨_, ⟨0, #[]⟩, rfl⟩ (fun K' hk => q_loadS _ _ rfl ⟨w.heap.size, 1, none⟩ rfl _ Tryz.underlying23 _ (fun W hW => hbW W (below_of_grow hW)) hk) ?_); go_big_quiet_op; go_big_quiet_on)))
              refine wpQuiet_nil ?_
              intro W7 hW7'
              have hb2 := hb.trans ((below_of_grow hW7').mono hb.size)
              clear hW7' hct hbW
              go_wp2
              go_roundw
              case rel => exact ⟨k + 1, by omega, by go_num, hg2.out, hb2⟩
              case measure => simp [intOf]; omega
        · obtain rfl : k = es.length := by omega
          have hd : decide ((es.length : Int) < (es.length : Int)) = false := by simp
          have hyes : (es.all fun e => decide (0 ≤ e.t ∧ e.t < bs.length)) = true := by
            rw [List.all_eq_true]
            intro e he
            obtain ⟨i, hi, rfl⟩ := List.mem_iff_getElem.1 he
            have := hgood i hi
            rw [gE_eq hi] at this
            exact decide_eq_true this
          obtain rfl : v0 = true := hv'.out.symm.trans hyes
          clear hyes hgood
          go_wp2
          go_ret
          exact ⟨rfl, hb1.trans (hb.mono hb1.size)⟩

set_option maxRecDepth 100000 in
set_option maxHeartbeats 1000000 in
theorem Edges10_any (P : Value) (A : Option Addr) (c : Nat) (bs : List Blk) (w : World) (hr : RF w A bs) (hl : bs.length ≤ 1000) :
    Calls Tryz.prog 15 #[.agg #[P, .slice A bs.length c]] w (OwnEds w (someE bs fun _ => true)) := by
  have hb0 := (Below.refl w.heap.size w).alloc (Nat.le_refl _) (.cells #[P, .slice A bs.length c] 25)
  have hs := blk_new w (.cells #[P, .slice A bs.length c] 25)
  have q := Closed10_any P A c bs _ (hr.below hb0) hl
  have hq : (someE bs fun _ => true) = if closedB bs then edgesOf bs else [] := by
    unfold someE
    rw [List.filter_eq_self.2 (fun _ _ => rfl)]
  rw [hq]
  clear hq
  cases hcl : closedB bs
  · rw [hcl] at q
    simp only [Bool.false_eq_true, if_false]
    go_enter Tryz.func15, Tryz.ntmps15
    go_wp2_with (refine wpList_load_row rfl _ _ rfl _ rfl _ _ _ _ hs Tryz.underlying25 rfl (by kernel_rfl) ?_)
    refine q.mono ?_
    rintro e W1 ⟨rfl, hb1⟩
    go_wp2
    go_ret
    exact ⟨_, rfl, World.ownsRow_nil _ _ _ _, hb0.trans (hb1.mono hb0.size)⟩
  · rw [hcl] at q
    simp only [if_true]
    go_enter Tryz.func15, Tryz.ntmps15
    go_wp2_with (refine wpList_load_row rfl _ _ rfl _ rfl _ _ _ _ hs Tryz.underlying25 rfl (by kernel_rfl) ?_)
    refine q.mono ?_
    rintro e W1 ⟨rfl, hb1⟩
    have hs1 := blk_below hb1 hs (blk_lt hs)
    have hB := hb0.trans (hb1.mono hb0.size)
    go_wp2_with (refine wpList_load_row rfl _ _ rfl _ rfl _ _ _ _ hs1 Tryz.underlying25 rfl (by kernel_rfl) ?_)
    refine (all10_any P A c bs W1 (hr.below hB) hl).mono ?_
    intro e W2 hf
    obtain ⟨v, rfl, ho, hb2⟩ := OwnEds.mono hB hf
    go_wp2
    go_ret
    exact ⟨v, rfl, ho, hb2⟩

set_option maxRecDepth 100000 in
set_option maxHeartbeats 2000000 in
theorem Into10_any (P : Value) (A : Option Addr) (c : Nat) (bs : List Blk) (n : Int) (w : World) (hr : RF w A bs) (hl : bs.length ≤ 1000) :
    Calls Tryz.prog 17 #[.agg #[P, .slice A bs.length c], .int .i64 n] w (OwnEds w (someE bs fun x => decide (x.t = n))) := by
  have hb0 := (Below.refl w.heap.size w).alloc (Nat.le_refl _) (.cells #[P, .slice A bs.length c] 25)
  have hs := blk_new w (.cells #[P, .slice A bs.length c] 25)
  have q := Edges10_any P A c bs _ (hr.below hb0) hl
  have hq : (someE bs fun x => decide (x.t = n)) = (someE bs fun _ => true).filter fun x => decide (x.t = n) := by unfold someE; cases closedB bs <;> simp
  rw [hq]
  have hel : (someE bs fun _ => true).length ≤ 2000 := by
    have h1 := edgesTo_len bs bs.length
    have h2 := List.length_filter_le (fun _ : Ed => true) (edgesOf bs)
    unfold someE
    split
    · unfold edgesOf at *; omega
    · simp
  clear hq
  generalize (someE bs fun _ => true) = es at *
  go_enter Tryz.func17, Tryz.ntmps17
  go_wp2_with (refine wpList_load_row rfl _ _ rfl _ rfl _ _ _ _ hs Tryz.underlying25 rfl (by kernel_rfl) ?_)
  refine q.mono ?_
  intro e W1 hf
  obtain ⟨v, rfl, ho, hb1⟩ := OwnEds.mono hb0 hf
  obtain ⟨A1, c1, rfl, _, hE⟩ := own_RE ho (by omega)
  clear ho q hf
  go_wp2
  obtain ⟨w1, rfl⟩ : ∃ w1 : World, w1 = W1 := ⟨_, rfl⟩
  go_loopw [5, 7] (fun v5 v7 W => ∃ k : Nat, k ≤ es.length ∧ v7 = .int .i64 k ∧ W.ownsRow w1.heap.size 58 3 v5 ((es.take k).filter fun x => decide (x.t = n)).length (edCells ((es.take k).filter fun x => decide (x.t = n))) ∧ Below w1.heap.size w1 W) (fun _ v7 _ => es.length - (intOf v7).toNat)
  case atStart => exact ⟨0, Nat.zero_le _, rfl, World.ownsRow_nil _ _ _ _, Below.refl _ _⟩
  case round =>
    obtain ⟨k, hk, rfl, hown, hb⟩ := hrel
    by_cases hkl : k < es.length
    · have hd : decide ((k : Int) < (es.length : Int)) = true := decide_eq_true (by omega)
      have hk2 : (k : Int) < (es.length : Int) := by omega
      have hk4 : (0 : Int) ≤ (k : Int) := by omega
      obtain ⟨be, oe, rfl, hbe, hce⟩ := (hE.below hb).rd k hkl
      obtain ⟨h1, h2, h3⟩ := hce wr (Below.refl _ _)
      have hts := filter_take_succ (p := fun x : Ed => decide (x.t = n)) hkl
      have hfl := List.length_filter_le (fun x : Ed => decide (x.t = n)) (es.take k)
      have htl : (es.take k).length ≤ es.length := List.length_take_le' ..
      have hts' := Lib.hid hts
      clear hts hce
      by_cases he : (gE es k).t = n
      · have d3 : ((gE es k).t == n) = true := by simpa using he
        have hts2 : (es.take (k + 1)).filter (fun x : Ed => decide (x.t = n)) = (es.take k).filter (fun x : Ed => decide (x.t = n)) ++ [gE es k] := by rw [hts'.out, decide_eq_true he]; rfl
        have hts2' := Lib.hid hts2
        clear he hts2 hts'
        generalize (es.take k).filter (fun x : Ed => decide (x.t = n)) = fs at *
        generalize gE es k = E at *
        obtain ⟨ef, ea, et⟩ := E
        simp only at h1 h2 h3 d3
        have n6 := blk_new wr (.cells #[.int .i64 ef, .int .i64 ea, .int .i64 et] 58)
        have hb6 := (Below.refl wr.heap.size wr).alloc (Nat.le_refl _) (.cells #[.int .i64 ef, .int .i64 ea, .int .i64 et] 58)
        have hown6 := own_below hown hb6
        have hbb := hb.trans (hb6.mono hb.size)
        have hS6 := hbb.size
        go_wp2_with (refine wpList_appRow rfl _ _ 32 58 3 24 _ rfl Tryz.underlying32 infoEdge rfl (by decide) (by decide) w1.heap.size _ rfl _ _ hown6 (by omega) _ _ #[.int .i64 ef, .int .i64 ea, .int .i64 et] rfl n6 rfl (by simp [int_one]) hS6 ?_; intro v9 W8 hown8 hg8)
        have hB8 := grown_up hown6 hbb hg8 hS6
        have hown9 : W8.ownsRow w1.heap.size 58 3 v9 ((es.take (k + 1)).filter fun x => decide (x.t = n)).length (edCells ((es.take (k + 1)).filter fun x => decide (x.t = n))) := by
          rw [hts2'.out, List.length_append, edCells_append]
          exact hown8
        clear hown8
        go_roundw
        case rel => exact ⟨k + 1, by omega, by go_num, hown9, hB8⟩
        case measure => simp [intOf]; omega
      · have d3 : ((gE es k).t == n) = false := by simpa using he
        have hts2 : (es.take (k + 1)).filter (fun x : Ed => decide (x.t = n)) = (es.take k).filter (fun x : Ed => decide (x.t = n)) := by rw [hts'.out, decide_eq_false he]; simp
        rw [← hts2] at hown
        clear he hts2 hts'
        go_wp2
        go_roundw
        case rel => exact ⟨k + 1, by omega, by go_num, hown, hb⟩
        case measure => simp [intOf]; omega
    · obtain rfl : k = es.length := by omega
      have hd : decide ((es.length : Int) < (es.length : Int)) = false := by simp
      rw [List.take_length] at hown
      go_wp2
      go_ret
      exact ⟨_, rfl, own_down hown hb1.size, hb1.trans (hb.mono hb1.size)⟩

set_option maxRecDepth 100000 in
set_option maxHeartbeats 2000000 in
theorem From10_any (P : Value) (A : Option Addr) (c : Nat) (bs : List Blk) (n : Int) (w : World) (hr : RF w A bs) (hl : bs.length ≤ 1000) :
    Calls Tryz.prog 19 #[.agg #[P, .slice A bs.length c], .int .i64 n] w (OwnEds w (someE bs fun x => decide (x.f = n))) := by
  have hb0 := (Below.refl w.heap.size w).alloc (Nat.le_refl _) (.cells #[P, .slice A bs.length c] 25)
  have hs := blk_new w (.cells #[P, .slice A bs.length c] 25)
  have q := Edges10_any P A c bs _ (hr.below hb0) hl
  have hq : (someE bs fun x => decide (x.f = n)) = (someE bs fun _ => true).filter fun x => decide (x.f = n) := by unfold someE; cases closedB bs <;> simp
  rw [hq]
  have hel : (someE bs fun _ => true).length ≤ 2000 := by
    have h1 := edgesTo_len bs bs.length
    have h2 := List.length_filter_le (fun _ : Ed => true) (edgesOf bs)
    unfold someE
    split
    · unfold edgesOf at *; omega
    · simp
  clear hq
  generalize (someE bs fun _ => true) = es at *
  go_enter Tryz.func19, Tryz.ntmps19
  go_wp2_with (refine wpList_load_row rfl _ _ rfl _ rfl _ _ _ _ hs Tryz.underlying25 rfl (by kernel_rfl) ?_)
  refine q.mono ?_
  intro e W1 hf
  obtain ⟨v, rfl, ho, hb1⟩ := OwnEds.mono hb0 hf
  obtain ⟨A1, c1, rfl, _, hE⟩ := own_RE ho (by omega)
  clear ho q hf
  go_wp2
  obtain ⟨w1, rfl⟩ : ∃ w1 : World, w1 = W1 := ⟨_, rfl⟩
  go_loopw [5, 7] (fun v5 v7 W => ∃ k : Nat, k ≤ es.length ∧ v7 = .int .i64 k ∧ W.ownsRow w1.heap.size 58 3 v5 ((es.take k).filter fun x => decide (x.f = n)).length (edCells ((es.take k).filter fun x => decide (x.f = n))) ∧ Below w1.heap.size w1 W) (fun _ v7 _ => es.length - (intOf v7).toNat)
  case atStart => exact ⟨0, Nat.zero_le _, rfl, World.ownsRow_nil _ _ _ _, Below.refl _ _⟩
  case round =>
    obtain ⟨k, hk, rfl, hown, hb⟩ := hrel
    by_cases hkl : k < es.length
    · have hd : decide ((k : Int) < (es.length : Int)) = true := decide_eq_true (by omega)
      have hk2 : (k : Int) < (es.length : Int) := by omega
      have hk4 : (0 : Int) ≤ (k : Int) := by omega
      obtain ⟨be, oe, rfl, hbe, hce⟩ := (hE.below hb).rd k hkl
      obtain ⟨h1, h2, h3⟩ := hce wr (Below.refl _ _)
      have hts := filter_take_succ (p := fun x : Ed => decide (x.f = n)) hkl
      have hfl := List.length_filter_le (fun x : Ed => decide (x.f = n)) (es.take k)
      have htl : (es.take k).length ≤ es.length := List.length_take_le' ..
      have hts' := Lib.hid hts
      clear hts hce
      by_cases he : (gE es k).f = n
      · have d3 : ((gE es k).f == n) = true := by simpa using he
        have hts2 : (es.take (k + 1)).filter (fun x : Ed => decide (x.f = n)) = (es.take k).filter (fun x : Ed => decide (x.f = n)) ++ [gE es k] := by rw [hts'.out, decide_eq_true he]; rfl
        have hts2' := Lib.hid hts2
        clear he hts2 hts'
        generalize (es.take k).filter (fun x : Ed => decide (x.f = n)) = fs at *
        generalize gE es k = E at *
        obtain ⟨ef, ea, et⟩ := E
        simp only at h1 h2 h3 d3
        have n6 := blk_new wr (.cells #[.int .i64 ef, .int .i64 ea, .int .i64 et] 58)
        have hb6 := (Below.refl wr.heap.size wr).alloc (Nat.le_refl _) (.cells #[.int .i64 ef, .int .i64 ea, .int .i64 et] 58)
        have hown6 := own_below hown hb6
        have hbb := hb.trans (hb6.mono hb.size)
        have hS6 := hbb.size
        go_wp2_with (refine wpList_appRow rfl _ _ 32 58 3 24 _ rfl Tryz.underlying32 infoEdge rfl (by decide) (by decide) w1.heap.size _ rfl _ _ hown6 (by omega) _ _ #[.int .i64 ef, .int .i64 ea, .int .i64 et] rfl n6 rfl (by simp [int_one]) hS6 ?_; intro v9 W8 hown8 hg8)
        have hB8 := grown_up hown6 hbb hg8 hS6
        have hown9 : W8.ownsRow w1.heap.size 58 3 v9 ((es.take (k + 1)).filter fun x => decide (x.f = n)).length (edCells ((es.take (k + 1)).filter fun x => decide (x.f = n))) := by
          rw [hts2'.out, List.length_append, edCells_append]
          exact hown8
        clear hown8
        go_roundw
        case rel => exact ⟨k + 1, by omega, by go_num, hown9, hB8⟩
        case measure => simp [intOf]; omega
      · have d3 : ((gE es k).f == n) = false := by simpa using he
        have hts2 : (es.take (k + 1)).filter (fun x : Ed => decide (x.f = n)) = (es.take k).filter (fun x : Ed => decide (x.f = n)) := by rw [hts'.out, decide_eq_false he]; simp
        rw [← hts2] at hown
        clear he hts2 hts'
        go_wp2
        go_roundw
        case rel => exact ⟨k + 1, by omega, by go_num, hown, hb⟩
        case measure => simp [intOf]; omega
    · obtain rfl : k = es.length := by omega
      have hd : decide ((es.length : Int) < (es.length : Int)) = false := by simp
      rw [List.take_length] at hown
      go_wp2
      go_ret
      exact ⟨_, rfl, own_down hown hb1.size, hb1.trans (hb.mono hb1.size)⟩

end Go.Proofs.YtjichaeegheacaaGreatDoor

/- RefC -/
/-
  The document's answer for package flow: Critical.
-/
namespace Go.Proofs.YtjichaeegheacaaGreatDoor
open Go Go.RowKit

theorem cnt_succ (g : Ed → Int) {es : List Ed} {q : Nat} (hq : q < es.length) (x : Int) : cntE g (es.take (q + 1)) x = cntE g (es.take q) x + if g (gE es q) = x then 1 else 0 := by
  rw [List.take_succ_eq_append_getElem hq, cntE_snoc, gE_eq hq]

set_option maxRecDepth 100000 in
set_option maxHeartbeats 4000000 in
theorem Critical10_any (P : Value) (A : Option Addr) (c : Nat) (bs : List Blk) (w : World) (hr : RF w A bs) (hl : bs.length ≤ 1000) :
    Calls Tryz.prog 21 #[.agg #[P, .slice A bs.length c]] w (OwnEds w (someE bs (critB (edgesOf bs)))) := by
  have hb0 := (Below.refl w.heap.size w).alloc (Nat.le_refl _) (.cells #[P, .slice A bs.length c] 25)
  have hs := blk_new w (.cells #[P, .slice A bs.length c] 25)
  have q := Edges10_any P A c bs _ (hr.below hb0) hl
  have hq : someE bs (critB (edgesOf bs)) = (someE bs fun _ => true).filter (critB (someE bs fun _ => true)) := by
    unfold someE
    cases closedB bs
    · rfl
    · simp only [if_true]
      rw [List.filter_eq_self.2 (fun _ _ => rfl)]
  rw [hq]
  have hel : (someE bs fun _ => true).length ≤ 2000 := by
    have h1 := edgesTo_len bs bs.length
    have h2 := List.length_filter_le (fun _ : Ed => true) (edgesOf bs)
    unfold someE
    split
    · unfold edgesOf at *; omega
    · simp
  clear hq
  generalize (someE bs fun _ => true) = es at *
  go_enter Tryz.func21, Tryz.ntmps21
  go_wp2_with (refine wpList_load_row rfl _ _ rfl _ rfl _ _ _ _ hs Tryz.underlying25 rfl (by kernel_rfl) ?_)
  refine q.mono ?_
  intro e W1 hf
  obtain ⟨v, rfl, ho, hb1⟩ := OwnEds.mono hb0 hf
  obtain ⟨A1, c1, rfl, _, hE⟩ := own_RE ho (by omega)
  clear ho q hf
  go_wp2
  obtain ⟨w1, rfl⟩ : ∃ w1 : World, w1 = W1 := ⟨_, rfl⟩
  change Code.wp _ _ _ (Act.mk _ _) _
  go_loopw [3, 5] (fun v3 v5 W => ∃ k : Nat, k ≤ es.length ∧ v5 = .int .i64 k ∧ W.ownsRow w1.heap.size 58 3 v3 ((es.take k).filter (critB es)).length (edCells ((es.take k).filter (critB es))) ∧ Below w1.heap.size w1 W) (fun _ v5 _ => es.length - (intOf v5).toNat)
  case atStart => exact ⟨0, Nat.zero_le _, rfl, World.ownsRow_nil _ _ _ _, Below.refl _ _⟩
  case round =>
    obtain ⟨i, hi, rfl, hown, hb⟩ := hrel
    by_cases hil : i < es.length
    · have hd : decide ((i : Int) < (es.length : Int)) = true := decide_eq_true (by omega)
      have hi2 : (i : Int) < (es.length : Int) := by omega
      have hi4 : (0 : Int) ≤ (i : Int) := by omega
      have hEr := hE.below hb
      have hts := filter_take_succ (p := critB es) hil
      have hfl := List.length_filter_le (critB es) (es.take i)
      have htl : (es.take i).length ≤ es.length := List.length_take_le' ..
      obtain ⟨be, oe, hAe, hbe, hci⟩ := hEr.rd i hil
      have hcrit : critB es (gE es i) = (decide (1 < cntE (·.t) es (gE es i).t) && decide (1 < cntE (·.f) es (gE es i).f)) := rfl
      have hts' := Lib.hid hts
      have hcrit' := Lib.hid hcrit
      clear hts hcrit
      obtain ⟨E, hEi⟩ : ∃ E, gE es i = E := ⟨_, rfl⟩
      rw [hEi] at hci
      have hEi' := Lib.hid hEi
      clear hEi
      subst hAe
      obtain ⟨w2, rfl⟩ : ∃ w2 : World, w2 = wr := ⟨_, rfl⟩
      go_wp2
      change Code.wp _ _ _ (Act.mk _ _) _
      go_loopw [6, 7, 8] (fun v6 v7 v8 W => ∃ q : Nat, q ≤ es.length ∧ v8 = .int .i64 q ∧ v6 = .int .i64 (cntE (·.t) (es.take q) E.t) ∧ v7 = .int .i64 (cntE (·.f) (es.take q) E.f) ∧ Below w2.heap.size w2 W) (fun _ _ v8 _ => es.length - (intOf v8).toNat)
      case atStart => exact ⟨0, Nat.zero_le _, rfl, rfl, rfl, Below.refl _ _⟩
      case round =>
        obtain ⟨q, hq, rfl, rfl, rfl, hb2⟩ := hrel
        by_cases hql : q < es.length
        · have hd2 : decide ((q : Int) < (es.length : Int)) = true := decide_eq_true (by omega)
          have hq2 : (q : Int) < (es.length : Int) := by omega
          have hq4 : (0 : Int) ≤ (q : Int) := by omega
          obtain ⟨be', oe', e', _, hcq⟩ := hEr.rd q hql
          cases e'
          have s1 := cnt_succ (·.t) hql E.t
          have s2 := cnt_succ (·.f) hql E.f
          have l1 := cntE_le (·.t) (es.take q) E.t
          have l2 := cntE_le (·.f) (es.take q) E.f
          have l3 : (es.take q).length ≤ es.length := List.length_take_le' ..
          generalize cntE (·.t) (es.take q) E.t = n1 at *
          generalize cntE (·.f) (es.take q) E.f = n2 at *
          have s1' := Lib.hid s1
          have s2' := Lib.hid s2
          clear s1 s2
          by_cases ht : (gE es q).t = E.t
          all_goals by_cases hf : (gE es q).f = E.f
          · have g1 : ((gE es q).t == E.t) = true := by simpa using ht
            have g2 : ((gE es q).f == E.f) = true := by simpa using hf
            have r1 := Lib.hid (s1'.out.trans (show _ = n1 + 1 by rw [if_pos ht]))
            have r2 := Lib.hid (s2'.out.trans (show _ = n2 + 1 by rw [if_pos hf]))
            clear ht hf
            go_wp2
            change Code.wp _ _ _ (Act.mk _ _) _
            refine wp_region_quiet_below (by kernel_rfl) (by kernel_rfl) ?_
            repeat (first
              | go_big_quiet_skip
              | (go_big_quiet_want; first
                  | (go_big_quiet_op; go_big_quiet_on)
                  | ((first
                      | refine q_go ⟨_, ⟨0, #[]⟩, rfl⟩ (fun K' hk => q_load1 _ _ rfl ⟨be, oe + q * 3 + 2, none⟩ rfl _ Tryz.underlying3 _ (fun W hW => (hcq W (hb2.trans ((below_of_grow hW).mono hb2.size))).2.2) hk) ?_
                      | refine q_go ⟨_, ⟨0, #[]⟩, rfl⟩ (fun K' hk => q_load1 _ _ rfl ⟨be, oe + i * 3 + 2, none⟩ rfl _ Tryz.underlying3 _ (fun W hW => (hci W (hb2.trans ((below_of_grow hW).mono hb2.size))).2.2) hk) ?_); go_big_quiet_op; go_big_quiet_on)))
            refine wpQuiet_nil ?_
            intro W7 hW7'
            have hb3 := hb2.trans ((below_of_grow hW7').mono hb2.size)
            clear hW7'
            go_wp2
            change Code.wp _ _ _ (Act.mk _ _) _
            refine wp_region_quiet_below (by kernel_rfl) (by kernel_rfl) ?_
            repeat (first
              | go_big_quiet_skip
              | (go_big_quiet_want; first
                  | (go_big_quiet_op; go_big_quiet_on)
                  | ((first
                      | refine q_go ⟨_, ⟨0, #[]⟩, rfl⟩ (fun K' hk => q_load1 _ _ rfl ⟨be, oe + q * 3, none⟩ rfl _ Tryz.underlying3 _ (fun W hW => (hcq W (hb3.trans ((below_of_grow hW).mono hb3.size))).1) hk) ?_
                      | refine q_go ⟨_, ⟨0, #[]⟩, rfl⟩ (fun K' hk => q_load1 _ _ rfl ⟨be, oe + i * 3, none⟩ rfl _ Tryz.underlying3 _ (fun W hW => (hci W (hb3.trans ((below_of_grow hW).mono hb3.size))).1) hk) ?_); go_big_quiet_op; go_big_quiet_on)))
            refine wpQuiet_nil ?_
            intro W8 hW8'
            have hb4 := hb3.trans ((below_of_grow hW8').mono hb3.size)
            clear hW8'
            go_wp2
            go_roundw
            case rel => exact ⟨q + 1, by omega, by go_num, by rw [r1.out]; go_num, by rw [r2.out]; go_num, hb4⟩
            case measure => simp [intOf]; omega
          · have g1 : ((gE es q).t == E.t) = true := by simpa using ht
            have g2 : ((gE es q).f == E.f) = false := by simpa using hf
            have r1 := Lib.hid (s1'.out.trans (show _ = n1 + 1 by rw [if_pos ht]))
            have r2 := Lib.hid (s2'.out.trans (show _ = n2 + 0 by rw [if_neg hf]))
            clear ht hf
            go_wp2
            change Code.wp _ _ _ (Act.mk _ _) _
            refine wp_region_quiet_below (by kernel_rfl) (by kernel_rfl) ?_
            repeat (first
              | go_big_quiet_skip
              | (go_big_quiet_want; first
                  | (go_big_quiet_op; go_big_quiet_on)
                  | ((first
                      | refine q_go ⟨_, ⟨0, #[]⟩, rfl⟩ (fun K' hk => q_load1 _ _ rfl ⟨be, oe + q * 3 + 2, none⟩ rfl _ Tryz.underlying3 _ (fun W hW => (hcq W (hb2.trans ((below_of_grow hW).mono hb2.size))).2.2) hk) ?_
                      | refine q_go ⟨_, ⟨0, #[]⟩, rfl⟩ (fun K' hk => q_load1 _ _ rfl ⟨be, oe + i * 3 + 2, none⟩ rfl _ Tryz.underlying3 _ (fun W hW => (hci W (hb2.trans ((below_of_grow hW).mono hb2.size))).2.2) hk) ?_); go_big_quiet_op; go_big_quiet_on)))
            refine wpQuiet_nil ?_
            intro W7 hW7'
            have hb3 := hb2.trans ((below_of_grow hW7').mono hb2.size)
            clear hW7'
            go_wp2
            change Code.wp _ _ _ (Act.mk _ _) _
            refine wp_region_quiet_below (by kernel_rfl) (by kernel_rfl) ?_
            repeat (first
              | go_big_quiet_skip
              | (go_big_quiet_want; first
                  | (go_big_quiet_op; go_big_quiet_on)
                  | ((first
                      | refine q_go ⟨_, ⟨0, #[]⟩, rfl⟩ (fun K' hk => q_load1 _ _ rfl ⟨be, oe + q * 3, none⟩ rfl _ Tryz.underlying3 _ (fun W hW => (hcq W (hb3.trans ((below_of_grow hW).mono hb3.size))).1) hk) ?_
                      | refine q_go ⟨_, ⟨0, #[]⟩, rfl⟩ (fun K' hk => q_load1 _ _ rfl ⟨be, oe + i * 3, none⟩ rfl _ Tryz.underlying3 _ (fun W hW => (hci W (hb3.trans ((below_of_grow hW).mono hb3.size))).1) hk) ?_); go_big_quiet_op; go_big_quiet_on)))
            refine wpQuiet_nil ?_
            intro W8 hW8'
            have hb4 := hb3.trans ((below_of_grow hW8').mono hb3.size)
            clear hW8'
            go_wp2
            go_roundw
            case rel => exact ⟨q + 1, by omega, by go_num, by rw [r1.out]; go_num, by rw [r2.out]; go_num, hb4⟩
            case measure => simp [intOf]; omega
          · have g1 : ((gE es q).t == E.t) = false := by simpa using ht
            have g2 : ((gE es q).f == E.f) = true := by simpa using hf
            have r1 := Lib.hid (s1'.out.trans (show _ = n1 + 0 by rw [if_neg ht]))
            have r2 := Lib.hid (s2'.out.trans (show _ = n2 + 1 by rw [if_pos hf]))
            clear ht hf
            go_wp2
            change Code.wp _ _ _ (Act.mk _ _) _
            refine wp_region_quiet_below (by kernel_rfl) (by kernel_rfl) ?_
            repeat (first
              | go_big_quiet_skip
              | (go_big_quiet_want; first
                  | (go_big_quiet_op; go_big_quiet_on)
                  | ((first
                      | refine q_go ⟨_, ⟨0, #[]⟩, rfl⟩ (fun K' hk => q_load1 _ _ rfl ⟨be, oe + q * 3 + 2, none⟩ rfl _ Tryz.underlying3 _ (fun W hW => (hcq W (hb2.trans ((below_of_grow hW).mono hb2.size))).2.2) hk) ?_
                      | refine q_go ⟨_, ⟨0, #[]⟩, rfl⟩ (fun K' hk => q_load1 _ _ rfl ⟨be, oe + i * 3 + 2, none⟩ rfl _ Tryz.underlying3 _ (fun W hW => (hci W (hb2.trans ((below_of_grow hW).mono hb2.size))).2.2) hk) ?_); go_big_quiet_op; go_big_quiet_on)))
            refine wpQuiet_nil ?_
            intro W7 hW7'
            have hb3 := hb2.trans ((below_of_grow hW7').mono hb2.size)
            clear hW7'
            go_wp2
            change Code.wp _ _ _ (Act.mk _ _) _
            refine wp_region_quiet_below (by kernel_rfl) (by kernel_rfl) ?_
            repeat (first
              | go_big_quiet_skip
              | (go_big_quiet_want; first
                  | (go_big_quiet_op; go_big_quiet_on)
                  | ((first
                      | refine q_go ⟨_, ⟨0, #[]⟩, rfl⟩ (fun K' hk => q_load1 _ _ rfl ⟨be, oe + q * 3, none⟩ rfl _ Tryz.underlying3 _ (fun W hW => (hcq W (hb3.trans ((below_of_grow hW).mono hb3.size))).1) hk) ?_
                      | refine q_go ⟨_, ⟨0, #[]⟩, rfl⟩ (fun K' hk => q_load1 _ _ rfl ⟨be, oe + i * 3, none⟩ rfl _ Tryz.underlying3 _ (fun W hW => (hci W (hb3.trans ((below_of_grow hW).mono hb3.size))).1) hk) ?_); go_big_quiet_op; go_big_quiet_on)))
            refine wpQuiet_nil ?_
            intro W8 hW8'
            have hb4 := hb3.trans ((below_of_grow hW8').mono hb3.size)
            clear hW8'
            go_wp2
            go_roundw
            case rel => exact ⟨q + 1, by omega, by go_num, by rw [r1.out]; go_num, by rw [r2.out]; go_num, hb4⟩
            case measure => simp [intOf]; omega
          · have g1 : ((gE es q).t == E.t) = false := by simpa using ht
            have g2 : ((gE es q).f == E.f) = false := by simpa using hf
            have r1 := Lib.hid (s1'.out.trans (show _ = n1 + 0 by rw [if_neg ht]))
            have r2 := Lib.hid (s2'.out.trans (show _ = n2 + 0 by rw [if_neg hf]))
            clear ht hf
            go_wp2
            change Code.wp _ _ _ (Act.mk _ _) _
            refine wp_region_quiet_below (by kernel_rfl) (by kernel_rfl) ?_
            repeat (first
              | go_big_quiet_skip
              | (go_big_quiet_want; first
                  | (go_big_quiet_op; go_big_quiet_on)
                  | ((first
                      | refine q_go ⟨_, ⟨0, #[]⟩, rfl⟩ (fun K' hk => q_load1 _ _ rfl ⟨be, oe + q * 3 + 2, none⟩ rfl _ Tryz.underlying3 _ (fun W hW => (hcq W (hb2.trans ((below_of_grow hW).mono hb2.size))).2.2) hk) ?_
                      | refine q_go ⟨_, ⟨0, #[]⟩, rfl⟩ (fun K' hk => q_load1 _ _ rfl ⟨be, oe + i * 3 + 2, none⟩ rfl _ Tryz.underlying3 _ (fun W hW => (hci W (hb2.trans ((below_of_grow hW).mono hb2.size))).2.2) hk) ?_); go_big_quiet_op; go_big_quiet_on)))
            refine wpQuiet_nil ?_
            intro W7 hW7'
            have hb3 := hb2.trans ((below_of_grow hW7').mono hb2.size)
            clear hW7'
            go_wp2
            change Code.wp _ _ _ (Act.mk _ _) _
            refine wp_region_quiet_below (by kernel_rfl) (by kernel_rfl) ?_
            repeat (first
              | go_big_quiet_skip
              | (go_big_quiet_want; first
                  | (go_big_quiet_op; go_big_quiet_on)
                  | ((first
                      | refine q_go ⟨_, ⟨0, #[]⟩, rfl⟩ (fun K' hk => q_load1 _ _ rfl ⟨be, oe + q * 3, none⟩ rfl _ Tryz.underlying3 _ (fun W hW => (hcq W (hb3.trans ((below_of_grow hW).mono hb3.size))).1) hk) ?_
                      | refine q_go ⟨_, ⟨0, #[]⟩, rfl⟩ (fun K' hk => q_load1 _ _ rfl ⟨be, oe + i * 3, none⟩ rfl _ Tryz.underlying3 _ (fun W hW => (hci W (hb3.trans ((below_of_grow hW).mono hb3.size))).1) hk) ?_); go_big_quiet_op; go_big_quiet_on)))
            refine wpQuiet_nil ?_
            intro W8 hW8'
            have hb4 := hb3.trans ((below_of_grow hW8').mono hb3.size)
            clear hW8'
            go_wp2
            go_roundw
            case rel => exact ⟨q + 1, by omega, by go_num, by rw [r1.out]; go_num, by rw [r2.out]; go_num, hb4⟩
            case measure => simp [intOf]; omega
        · obtain rfl : q = es.length := by omega
          have hd2 : decide ((es.length : Int) < (es.length : Int)) = false := by simp
          have hEi := hEi'.out
          have hcr := hcrit'.out
          rw [hEi] at hcr
          have hb3 := hb.trans (hb2.mono hb.size)
          have hown2 := own_below hown hb2
          obtain ⟨h1, h2, h3⟩ := hci wr hb2
          have l1 := cntE_le (·.t) es E.t
          have l2 := cntE_le (·.f) es E.f
          rw [List.take_length]
          generalize cntE (·.t) es E.t = n1 at *
          generalize cntE (·.f) es E.f = n2 at *
          have hyes : 1 < n1 → 1 < n2 → (es.take (i + 1)).filter (critB es) = (es.take i).filter (critB es) ++ [E] := fun q1 q2 => by
            rw [hts'.out, hEi, hcr, decide_eq_true q1, decide_eq_true q2]; rfl
          have hno : ¬ (1 < n1 ∧ 1 < n2) → (es.take (i + 1)).filter (critB es) = (es.take i).filter (critB es) := fun q1 => by
            rw [hts'.out, hEi, hcr]
            have : (decide (1 < n1) && decide (1 < n2)) = false := by
              rw [Bool.and_eq_false_iff]
              by_cases hx : 1 < n1
              · exact .inr (decide_eq_false fun hy => q1 ⟨hx, hy⟩)
              · exact .inl (decide_eq_false hx)
            rw [this]; simp
          have hyes' := Lib.hid hyes
          have hno' := Lib.hid hno
          clear hyes hno hEi hcr hown hb2 hb
          by_cases q1 : 1 < n1
          · have d1 : decide ((n1 : Int) > 1) = true := decide_eq_true (by omega)
            by_cases q2 : 1 < n2
            · have d2 : decide ((n2 : Int) > 1) = true := decide_eq_true (by omega)
              have hy := Lib.hid (hyes'.out q1 q2)
              generalize (es.take i).filter (critB es) = fs at *
              obtain ⟨ef, ea, et⟩ := E
              simp only at h1 h2 h3
              have n6 := blk_new wr (.cells #[.int .i64 ef, .int .i64 ea, .int .i64 et] 58)
              have hb6 := (Below.refl wr.heap.size wr).alloc (Nat.le_refl _) (.cells #[.int .i64 ef, .int .i64 ea, .int .i64 et] 58)
              have hown6 := own_below hown2 hb6
              have hbb := hb3.trans (hb6.mono hb3.size)
              have hS6 := hbb.size
              go_wp2_with (refine wpList_appRow rfl _ _ 32 58 3 24 _ rfl Tryz.underlying32 infoEdge rfl (by decide) (by decide) w1.heap.size _ rfl _ _ hown6 (by omega) _ _ #[.int .i64 ef, .int .i64 ea, .int .i64 et] rfl n6 rfl (by simp [int_one]) hS6 ?_; intro v9 W8 hown8 hg8)
              have hB8 := grown_up hown6 hbb hg8 hS6
              have hown9 : W8.ownsRow w1.heap.size 58 3 v9 ((es.take (i + 1)).filter (critB es)).length (edCells ((es.take (i + 1)).filter (critB es))) := by
                rw [hy.out, List.length_append, edCells_append]
                exact hown8
              clear hown8
              go_roundw
              case rel => exact ⟨i + 1, by omega, by go_num, hown9, hB8⟩
              case measure => simp [intOf]; omega
            · have d2 : decide ((n2 : Int) > 1) = false := decide_eq_false (by omega)
              rw [← hno'.out (fun h => q2 h.2)] at hown2
              go_wp2
              go_roundw
              case rel => exact ⟨i + 1, by omega, by go_num, hown2, hb3⟩
              case measure => simp [intOf]; omega
          · have d1 : decide ((n1 : Int) > 1) = false := decide_eq_false (by omega)
            rw [← hno'.out (fun h => q1 h.1)] at hown2
            go_wp2
            go_roundw
            case rel => exact ⟨i + 1, by omega, by go_num, hown2, hb3⟩
            case measure => simp [intOf]; omega
    · obtain rfl : i = es.length := by omega
      have hd : decide ((es.length : Int) < (es.length : Int)) = false := by simp
      rw [List.take_length] at hown
      go_wp2
      go_ret
      exact ⟨_, rfl, own_down hown hb1.size, hb1.trans (hb.mono hb1.size)⟩

end Go.Proofs.YtjichaeegheacaaGreatDoor
