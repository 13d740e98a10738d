/-
  KeptB RefTo RefA
-/
import Derived.Test.YtjichaeegheacaaGreatDoorFT14
import Derived.Test.YtjichaeegheacaaGreatDoorFT12

/- KeptB -/
/-
  intarsiakit: blocks and functions that are as they were.
-/
namespace Go.Proofs.YtjichaeegheacaaGreatDoor
open Go Go.RowKit

theorem szInt (w : World) : (sizeOf 3).run Tryz.prog w = .ok 1 w := by
  have h : (Tryz.prog.info? 3).map (·.size) = some 1 := by kernel_rfl
  cases hq : Tryz.prog.info? 3 with
  | none => rw [hq] at h; cases h
  | some i => rw [hq] at h; simp at h; simp [sizeOf, typeInfo, run_program, hq, h]
theorem run_equalIn_arr2 (d : Nat) (x y : Int) (w : World) : (Op.equalIn (d + 2) 45 (.agg #[.int .i64 x, .int .i64 y]) (.agg #[.int .i64 x, .int .i64 y])).run Tryz.prog w = .ok true w := by
  have e1 : ∀ z : Int, (Op.equalIn (d + 1) 3 (.int .i64 z) (.int .i64 z)).run Tryz.prog w = .ok true w := fun z => by
    rw [run_equalIn_int w d 3 .i64 .i64 z z Tryz.underlying3]; simp
  have p0 : (part 3 #[.int .i64 x, .int .i64 y] (0 * 1)).run Tryz.prog w = .ok (.int .i64 x) w := by simp [part, isAgg, run_underlying Tryz.underlying3]
  have p1 : (part 3 #[.int .i64 x, .int .i64 y] (1 * 1)).run Tryz.prog w = .ok (.int .i64 y) w := by simp [part, isAgg, run_underlying Tryz.underlying3]
  rw [Op.equalIn]
  simp only [Sem.run_bind, run_underlying Tryz.underlying45, Result.andThen_ok, szInt, Std.Legacy.Range.forIn_eq_forIn_range', Std.Legacy.Range.size, Nat.sub_zero, Nat.add_sub_cancel, Nat.div_one]
  rw [show List.range' 0 2 1 = [0, 1] from rfl]
  simp only [List.forIn_cons, List.forIn_nil, Sem.run_bind, p0, p1, e1, Result.andThen_ok, Bool.not_true, Bool.false_eq_true, if_false, Sem.run_pure]
theorem fieldsTerm : (Tryz.prog.fieldsOf 47).toList.map (fun f => (f.name != "_", f.type, f.offset)) = [(true, 44, 0), (true, 3, 1), (true, 45, 2)] := by kernel_rfl
theorem run_equalIn_tm (d : Nat) (k a x y : Int) (w : World) : (Op.equalIn (d + 3) 47 (.agg #[.int .i64 k, .int .i64 a, .int .i64 x, .int .i64 y]) (.agg #[.int .i64 k, .int .i64 a, .int .i64 x, .int .i64 y])).run Tryz.prog w = .ok true w := by
  rw [run_equalIn_struct w (d + 2) 47 _ _ (by kernel_rfl) (by kernel_rfl)]
  have hf := fieldsTerm
  have e1 : (Op.equalIn (d + 2) 44 (.int .i64 k) (.int .i64 k)).run Tryz.prog w = .ok true w := by
    rw [run_equalIn_int w (d + 1) 44 .i64 .i64 k k Tryz.underlying44]; simp
  have e2 : (Op.equalIn (d + 2) 3 (.int .i64 a) (.int .i64 a)).run Tryz.prog w = .ok true w := by
    rw [run_equalIn_int w (d + 1) 3 .i64 .i64 a a Tryz.underlying3]; simp
  have p0 : (part 44 #[.int .i64 k, .int .i64 a, .int .i64 x, .int .i64 y] 0).run Tryz.prog w = .ok (.int .i64 k) w := by simp [part, isAgg, run_underlying Tryz.underlying44]
  have p1 : (part 3 #[.int .i64 k, .int .i64 a, .int .i64 x, .int .i64 y] 1).run Tryz.prog w = .ok (.int .i64 a) w := by simp [part, isAgg, run_underlying Tryz.underlying3]
  have hs2 : (sizeOf 45).run Tryz.prog w = .ok 2 w := by
    have h : (Tryz.prog.info? 45).map (·.size) = some 2 := by kernel_rfl
    cases hq : Tryz.prog.info? 45 with
    | none => rw [hq] at h; cases h
    | some i => rw [hq] at h; simp at h; simp [sizeOf, typeInfo, run_program, hq, h]
  have p2 : (part 45 #[.int .i64 k, .int .i64 a, .int .i64 x, .int .i64 y] 2).run Tryz.prog w = .ok (.agg #[.int .i64 x, .int .i64 y]) w := by
    simp only [part, isAgg, Sem.run_bind, run_underlying Tryz.underlying45, Result.andThen_ok, Sem.run_pure, if_true, hs2]
    rfl
  generalize (Tryz.prog.fieldsOf 47).toList = l at *
  rw [List.map_eq_cons_iff] at hf
  obtain ⟨f0, l1, rfl, h0, hf⟩ := hf
  rw [List.map_eq_cons_iff] at hf
  obtain ⟨f1, l2, rfl, h1, hf⟩ := hf
  rw [List.map_eq_cons_iff] at hf
  obtain ⟨f2, l3, rfl, h2, hf⟩ := hf
  rw [List.map_eq_nil_iff] at hf
  subst hf
  simp only [Prod.mk.injEq] at h0 h1 h2
  obtain ⟨n0, t0, o0⟩ := h0
  obtain ⟨n1, t1, o1⟩ := h1
  obtain ⟨n2, t2, o2⟩ := h2
  have g0 : f0.name ≠ "_" := by simpa using n0
  have g1 : f1.name ≠ "_" := by simpa using n1
  have g2 : f2.name ≠ "_" := by simpa using n2
  simp only [Op.eqFields, if_pos g0, if_pos g1, if_pos g2, t0, t1, t2, o0, o1, o2, Sem.run_bind, p0, p1, p2, e1, e2, run_equalIn_arr2, Result.andThen_ok, Bool.not_true, Bool.false_eq_true, if_false, Sem.run_pure]
theorem run_eql_tm (k a x y : Int) (w : World) : (binOp .eql 47 (.agg #[.int .i64 k, .int .i64 a, .int .i64 x, .int .i64 y]) (.agg #[.int .i64 k, .int .i64 a, .int .i64 x, .int .i64 y])).run Tryz.prog w = .ok (.bool true) w := by
  rw [run_eql_struct, run_equalIn_tm]
  rfl

/-- Block k, where it lies. -/
theorem RBlk.at_ {w : World} {A : Option Addr} {bs : List BlkV} (h : RBlk w A bs) {k : Nat} (hk : k < bs.length) :
    ∃ b off, A = some ⟨b, off, none⟩ ∧ b < w.heap.size ∧ ∀ W, Below w.heap.size w W → ∀ j, j < 5 → W.cell? ⟨b, off + k * 5 + j, none⟩ = some ((gBV bs k).blk.cell j) := by
  obtain ⟨b, off, e, hb, _, hc⟩ := h.rf.at_ (k := k) (by rw [blks_len]; exact hk)
  refine ⟨b, off, e, hb, fun W hW j hj => ?_⟩
  have := hc j hj
  rw [gB_blks hk, show off + 5 * k + j = off + k * 5 + j by omega] at this
  exact (hW.cell (p := ⟨b, off + k * 5 + j, none⟩) hb).trans this
theorem RBlk.len' {w : World} {A : Option Addr} {bs : List BlkV} (h : RBlk w A bs) : bs.length ≤ 35184372088832 := by
  have := h.rf.len
  rwa [blks_len] at this
theorem blk_range {W : World} {b f : Nat} {X : BlkV} (h : ∀ j, j < 5 → W.cell? ⟨b, f + j, none⟩ = some (X.blk.cell j)) : W.rangeAt b f X.val.toList := by
  intro j v hv
  have hj : j < 5 := (List.getElem?_eq_some_iff.1 hv).1
  rw [BlkV.val_at X hj] at hv
  cases hv
  exact h j hj
theorem map_b_len {xs ys : List BlkV} (h : ys.map BlkV.dat = xs.map BlkV.dat) : ys.length = xs.length := by
  have := congrArg List.length h
  simpa using this
theorem map_b_at {xs ys : List BlkV} (h : ys.map BlkV.dat = xs.map BlkV.dat) {i : Nat} (hi : i < xs.length) : (gBV ys i).dat = (gBV xs i).dat := by
  have hl := map_b_len h
  have h2 := congrArg (fun l => l[i]?) h
  simp only [List.getElem?_map, List.getElem?_eq_getElem hi, List.getElem?_eq_getElem (show i < ys.length by omega), Option.map_some, Option.some.injEq] at h2
  rw [gBV_eq hi, gBV_eq (by omega)]
  exact h2

set_option maxRecDepth 100000 in
set_option maxHeartbeats 2000000 in
theorem SameBlock_any (x y : BlkV) (he : y.dat = x.dat) (w : World) (hx : RRow w x.A x.ins) (hy : RRow w y.A y.ins) :
    Calls Tryz.prog 88 #[.agg x.val, .agg y.val] w (Fresh w (.bool true)) := by
  obtain ⟨ins, A, c, t⟩ := x
  obtain ⟨ins2, A2, c2, t2⟩ := y
  simp only [BlkV.dat, Prod.mk.injEq] at he
  obtain ⟨he, rfl⟩ := he
  simp only [BlkV.val, BlkV.iv] at *
  have hb1 := (Below.refl w.heap.size w).alloc (Nat.le_refl _) (.cells #[.slice A ins.length c, .int .i64 t2.k, .int .i64 t2.a, .int .i64 t2.t0, .int .i64 t2.t1] 49)
  have hb2 := hb1.alloc (by simp) (.cells #[.slice A2 ins2.length c2, .int .i64 t2.k, .int .i64 t2.a, .int .i64 t2.t0, .int .i64 t2.t1] 49)
  have n1 := blk_new w (.cells #[.slice A ins.length c, .int .i64 t2.k, .int .i64 t2.a, .int .i64 t2.t0, .int .i64 t2.t1] 49)
  have n1' := (blk_old (w.alloc (.cells #[.slice A ins.length c, .int .i64 t2.k, .int .i64 t2.a, .int .i64 t2.t0, .int .i64 t2.t1] 49)) (.cells #[.slice A2 ins2.length c2, .int .i64 t2.k, .int .i64 t2.a, .int .i64 t2.t0, .int .i64 t2.t1] 49) (blk_lt n1)).trans n1
  have n2 := blk_new (w.alloc (.cells #[.slice A ins.length c, .int .i64 t2.k, .int .i64 t2.a, .int .i64 t2.t0, .int .i64 t2.t1] 49)) (.cells #[.slice A2 ins2.length c2, .int .i64 t2.k, .int .i64 t2.a, .int .i64 t2.t0, .int .i64 t2.t1] 49)
  rw [World.size_alloc] at n2
  have hsame := fun W hW => SameRow_any A A2 c c2 ins ins2 he W (hx.below (w' := W) hW) (hy.below hW)
  have heq := fun W => run_eql_tm t2.k t2.a t2.t0 t2.t1 W
  go_enter Tryz.func88, Tryz.ntmps88
  go_wp2_with fail
  refine (hsame _ hb2).mono ?_
  rintro e W1 ⟨rfl, hb3⟩
  have m1 := blk_below hb3 n1' (blk_lt n1')
  have m2 := blk_below hb3 n2 (blk_lt n2)
  have gc1 := (cell_of_row _ _ 1 _ _ _ m1).trans (show #[.slice A ins.length c, .int .i64 t2.k, .int .i64 t2.a, .int .i64 t2.t0, .int .i64 t2.t1][1]? = some (Value.int .i64 t2.k) from rfl)
  have gc2 := (cell_of_row _ _ 2 _ _ _ m1).trans (show #[.slice A ins.length c, .int .i64 t2.k, .int .i64 t2.a, .int .i64 t2.t0, .int .i64 t2.t1][2]? = some (Value.int .i64 t2.a) from rfl)
  have gc3 := (cell_of_row _ _ 3 _ _ _ m1).trans (show #[.slice A ins.length c, .int .i64 t2.k, .int .i64 t2.a, .int .i64 t2.t0, .int .i64 t2.t1][3]? = some (Value.int .i64 t2.t0) from rfl)
  have gc4 := (cell_of_row _ _ 4 _ _ _ m1).trans (show #[.slice A ins.length c, .int .i64 t2.k, .int .i64 t2.a, .int .i64 t2.t0, .int .i64 t2.t1][4]? = some (Value.int .i64 t2.t1) from rfl)
  have ge1 := (cell_of_row _ _ 1 _ _ _ m2).trans (show #[.slice A2 ins2.length c2, .int .i64 t2.k, .int .i64 t2.a, .int .i64 t2.t0, .int .i64 t2.t1][1]? = some (Value.int .i64 t2.k) from rfl)
  have ge2 := (cell_of_row _ _ 2 _ _ _ m2).trans (show #[.slice A2 ins2.length c2, .int .i64 t2.k, .int .i64 t2.a, .int .i64 t2.t0, .int .i64 t2.t1][2]? = some (Value.int .i64 t2.a) from rfl)
  have ge3 := (cell_of_row _ _ 3 _ _ _ m2).trans (show #[.slice A2 ins2.length c2, .int .i64 t2.k, .int .i64 t2.a, .int .i64 t2.t0, .int .i64 t2.t1][3]? = some (Value.int .i64 t2.t0) from rfl)
  have ge4 := (cell_of_row _ _ 4 _ _ _ m2).trans (show #[.slice A2 ins2.length c2, .int .i64 t2.k, .int .i64 t2.a, .int .i64 t2.t0, .int .i64 t2.t1][4]? = some (Value.int .i64 t2.t1) from rfl)
  have hB := hb2.trans (hb3.mono hb2.size)
  clear m1 m2 n1 n1' n2 hb1 hb2 hb3 hsame
  go_wp2
  go_ret
  exact ⟨rfl, hB⟩

set_option maxRecDepth 100000 in
set_option maxHeartbeats 2000000 in
theorem KeptBlock_any (x y : BlkV) (he : y.dat = x.dat) (w : World) (B : Nat) (hx : LentR w B x.A x.c x.ins) (hy : RRow w y.A y.ins) :
    Calls Tryz.prog 87 #[.agg x.val, .agg y.val] w (Fresh w (.bool true)) := by
  have hsame := fun W hW => SameBlock_any x y he W (hx.rr.below hW) (hy.below hW)
  obtain ⟨ins, A, c, t⟩ := x
  obtain ⟨ins2, A2, c2, t2⟩ := y
  simp only [BlkV.dat, Prod.mk.injEq] at he
  obtain ⟨he, rfl⟩ := he
  simp only [BlkV.val, BlkV.iv] at *
  have hb1 := (Below.refl w.heap.size w).alloc (Nat.le_refl _) (.cells #[.slice A ins.length c, .int .i64 t2.k, .int .i64 t2.a, .int .i64 t2.t0, .int .i64 t2.t1] 49)
  have hb2 := hb1.alloc (by simp) (.cells #[.slice A2 ins2.length c2, .int .i64 t2.k, .int .i64 t2.a, .int .i64 t2.t0, .int .i64 t2.t1] 49)
  have n1 := blk_new w (.cells #[.slice A ins.length c, .int .i64 t2.k, .int .i64 t2.a, .int .i64 t2.t0, .int .i64 t2.t1] 49)
  have n1' := (blk_old (w.alloc (.cells #[.slice A ins.length c, .int .i64 t2.k, .int .i64 t2.a, .int .i64 t2.t0, .int .i64 t2.t1] 49)) (.cells #[.slice A2 ins2.length c2, .int .i64 t2.k, .int .i64 t2.a, .int .i64 t2.t0, .int .i64 t2.t1] 49) (blk_lt n1)).trans n1
  have n2 := blk_new (w.alloc (.cells #[.slice A ins.length c, .int .i64 t2.k, .int .i64 t2.a, .int .i64 t2.t0, .int .i64 t2.t1] 49)) (.cells #[.slice A2 ins2.length c2, .int .i64 t2.k, .int .i64 t2.a, .int .i64 t2.t0, .int .i64 t2.t1] 49)
  rw [World.size_alloc] at n2
  go_enter Tryz.func87, Tryz.ntmps87
  go_wp2_with (first
    | (refine wpList_load_row rfl _ _ rfl _ rfl _ _ _ _ n1' Tryz.underlying49 rfl (by kernel_rfl) ?_)
    | (refine wpList_load_row rfl _ _ rfl _ rfl _ _ _ _ n2 Tryz.underlying49 rfl (by kernel_rfl) ?_))
  refine (hsame _ hb2).mono ?_
  rintro e W1 ⟨rfl, hb3⟩
  have m1 := blk_below hb3 n1' (blk_lt n1')
  have m2 := blk_below hb3 n2 (blk_lt n2)
  have gc0 := (cell_of_row _ _ 0 _ _ _ m1).trans (show #[.slice A ins.length c, .int .i64 t2.k, .int .i64 t2.a, .int .i64 t2.t0, .int .i64 t2.t1][0]? = some (Value.slice A ins.length c) from rfl)
  have ge0 := (cell_of_row _ _ 0 _ _ _ m2).trans (show #[.slice A2 ins2.length c2, .int .i64 t2.k, .int .i64 t2.a, .int .i64 t2.t0, .int .i64 t2.t1][0]? = some (Value.slice A2 ins2.length c2) from rfl)
  have hB := hb2.trans (hb3.mono hb2.size)
  clear m1 m2 n1 n1' n2 hb1 hb2 hb3 hsame
  go_wp2_with fail
  refine (KeptRow_any A A2 c c2 ins ins2 he _ B (hx.below hB) (hy.below hB)).mono ?_
  rintro e W2 ⟨rfl, hb4⟩
  go_wp2
  go_ret
  exact ⟨rfl, hB.trans (hb4.mono hB.size)⟩

set_option maxRecDepth 100000 in
set_option maxHeartbeats 2000000 in
theorem SameBlocks_any (A A2 : Option Addr) (c c2 : Nat) (xs ys : List BlkV) (he : ys.map BlkV.dat = xs.map BlkV.dat) (w : World) (hx : RBlk w A xs) (hy : RBlk w A2 ys) :
    Calls Tryz.prog 86 #[.slice A xs.length c, .slice A2 ys.length c2] w (Fresh w (.bool true)) := by
  have hl := map_b_len he
  have hlx := hx.len'
  have hd := fun {i : Nat} (hi : i < xs.length) => map_b_at he hi
  rw [hl]
  have hn0 : ((xs.length : Int) != (xs.length : Int)) = false := by simp
  have hl' := Lib.hid hl
  clear hl he
  go_enter Tryz.func86, Tryz.ntmps86
  go_wp2
  go_loopw [5] (fun v5 W => ∃ k : Nat, k ≤ xs.length ∧ v5 = .int .i64 k ∧ Below w.heap.size w W) (fun v5 _ => xs.length - (intOf v5).toNat)
  case atStart => exact ⟨0, by omega, rfl, Below.refl _ _⟩
  case round =>
    obtain ⟨k, hk, rfl, hB⟩ := hrel
    by_cases hlt : k < xs.length
    · have hd1 : decide ((k : Int) < (xs.length : Int)) = true := decide_eq_true (by omega)
      have hk2 : (k : Int) < (xs.length : Int) := by omega
      have hk3 : (k : Int) < (ys.length : Int) := by have := hl'.out; omega
      have hk4 : (0 : Int) ≤ (k : Int) := by omega
      have hxB := hx.below hB
      have hyB := hy.below hB
      obtain ⟨b, off, rfl, hbl, hc1⟩ := hxB.at_ hlt
      obtain ⟨b2, off2, rfl, hbl2, hc2⟩ := hyB.at_ (k := k) (by have := hl'.out; omega)
      have ha1 := hxB.rows k hlt
      have ha2 := hyB.rows k (by have := hl'.out; omega)
      have hdk := hd hlt
      generalize gBV xs k = X at *
      generalize gBV ys k = Y at *
      have hsame : ∀ W, Below wr.heap.size wr W → Calls Tryz.prog 88 #[.agg X.val, .agg Y.val] W (Fresh W (.bool true)) := fun W hW => SameBlock_any X Y hdk W (ha1.below hW) (ha2.below hW)
      go_wp2
      change Code.wp _ _ _ (Act.mk _ _) _
      refine wp_region_quiet_below (by kernel_rfl) (by kernel_rfl) ?_
      repeat (first
        | go_big_quiet_skip
        | (go_big_quiet_want; first
            | (go_big_quiet_op; go_big_quiet_on)
            | ((first
                | refine q_go ⟨_, ⟨0, #[]⟩, rfl⟩ (fun K' hk => q_loadM _ _ rfl b (off + k * 5) rfl X.val.toList _ (fun W hW => blk_range (hc1 W (below_of_grow hW))) Tryz.underlying49 rfl (by kernel_rfl) hk) ?_
                | refine q_go ⟨_, ⟨0, #[]⟩, rfl⟩ (fun K' hk => q_loadM _ _ rfl b2 (off2 + k * 5) rfl Y.val.toList _ (fun W hW => blk_range (hc2 W (below_of_grow hW))) Tryz.underlying49 rfl (by kernel_rfl) hk) ?_
                | refine q_go ⟨_, ⟨0, #[]⟩, rfl⟩ (fun K' hk => q_call2 88 _ _ _ rfl (.agg X.val) rfl (.agg Y.val) rfl (by kernel_rfl) _ (fresh_grow hsame) hk) ?_); go_big_quiet_op; go_big_quiet_on)))
      refine wpQuiet_nil ?_
      intro W7 hW7'
      have hB7 := hB.trans ((below_of_grow hW7').mono hB.size)
      clear hW7' hc1 hc2 hsame
      go_wp2
      go_roundw
      case rel => exact ⟨k + 1, by omega, by go_num, hB7⟩
      case measure => simp [intOf]; omega
    · obtain rfl : k = xs.length := by omega
      have hd1 : decide ((xs.length : Int) < (xs.length : Int)) = false := by simp
      go_wp2
      go_ret
      exact ⟨rfl, hB⟩

theorem gBV_marks {xs : List BlkV} {q : Nat} (h : q < 12) : gBV (xs ++ marksB 12) (xs.length + q) = markB q := by
  unfold gBV marksB
  rw [List.getElem?_append_right (by omega)]
  simp [h]

set_option maxRecDepth 100000 in
set_option maxHeartbeats 4000000 in
theorem KeptBlocks_any (A A2 : Option Addr) (c c2 : Nat) (xs ys : List BlkV) (he : ys.map BlkV.dat = xs.map BlkV.dat) (w : World) (B : Nat) (hL : LentB w B A c xs) (hy : RBlk w A2 ys) :
    Calls Tryz.prog 68 #[.slice A xs.length c, .slice A2 ys.length c2] w (Fresh w (.bool true)) := by
  obtain ⟨hall, hcap⟩ := hL.all
  have hlx := hL.2.2.1
  have hLa := hL.2.1
  have hl := map_b_len he
  have hd := fun {i : Nat} (hi : i < xs.length) => map_b_at he hi
  have hlen : (xs ++ marksB 12).length = xs.length + 12 := by rw [List.length_append, marksB_len]
  obtain ⟨b, off, rfl, hb, _⟩ := hall.at_ (k := 0) (by omega)
  have hc0 : (xs.length : Int) + 12 ≤ (c : Int) := by omega
  rw [hl]
  have hn0 : ((xs.length : Int) != (xs.length : Int)) = false := by simp
  have hl' := Lib.hid hl
  clear hl he
  go_enter Tryz.func68, Tryz.ntmps68
  go_wp2
  go_loopw [6] (fun v6 W => ∃ k : Nat, k ≤ xs.length + 12 ∧ v6 = .int .i64 k ∧ Below w.heap.size w W) (fun v6 _ => xs.length + 12 - (intOf v6).toNat)
  case atStart => exact ⟨0, by omega, rfl, Below.refl _ _⟩
  case round =>
    obtain ⟨k, hk, rfl, hB⟩ := hrel
    by_cases hlt : k < xs.length + 12
    · have hd1 : decide ((k : Int) < (xs.length : Int) + 12) = true := decide_eq_true (by omega)
      have hallB := hall.below hB
      obtain ⟨b', off', e', hbl, hcell⟩ := hallB.at_ (k := k) (by omega)
      cases e'
      have hk2 : (k : Int) < (xs.length : Int) + 12 := by omega
      have hk4 : (0 : Int) ≤ (k : Int) := by omega
      by_cases hin : k < xs.length
      · have hd2 : decide ((k : Int) < (xs.length : Int)) = true := decide_eq_true (by omega)
        have hd3 : decide ((k : Int) ≥ (xs.length : Int)) = false := decide_eq_false (by omega)
        have hd4 : decide (xs.length ≤ k) = false := decide_eq_false (by omega)
        have hk3 : (k : Int) < (xs.length : Int) := by omega
        have hyB := hy.below hB
        obtain ⟨b2, off2, rfl, hbl2, hc2⟩ := hyB.at_ (k := k) (by have := hl'.out; omega)
        have ha2 := hyB.rows k (by have := hl'.out; omega)
        have hdk := hd hin
        rw [gBV_append hin] at hcell
        have ha1 : LentR wr B (gBV xs k).A (gBV xs k).c (gBV xs k).ins := by
          rw [gBV_eq hin]
          exact (hLa _ (List.getElem_mem hin)).below hB
        generalize gBV xs k = X at *
        generalize gBV ys k = Y at *
        have hsame : ∀ W, Below wr.heap.size wr W → Calls Tryz.prog 87 #[.agg X.val, .agg Y.val] W (Fresh W (.bool true)) := fun W hW => KeptBlock_any X Y hdk W B (ha1.below hW) (ha2.below hW)
        go_wp2
        change Code.wp _ _ _ (Act.mk _ _) _
        refine wp_region_quiet_below (by kernel_rfl) (by kernel_rfl) ?_
        repeat (first
          | go_big_quiet_skip
          | (go_big_quiet_want; first
              | (go_big_quiet_op; go_big_quiet_on)
              | ((first
                  | refine q_go ⟨_, ⟨0, #[]⟩, rfl⟩ (fun K' hk => q_loadM _ _ rfl b (off + k * 5) rfl X.val.toList _ (fun W hW => blk_range (hcell W (below_of_grow hW))) Tryz.underlying49 rfl (by kernel_rfl) hk) ?_
                  | refine q_go ⟨_, ⟨0, #[]⟩, rfl⟩ (fun K' hk => q_loadM _ _ rfl b2 (off2 + k * 5) rfl Y.val.toList _ (fun W hW => blk_range (hc2 W (below_of_grow hW))) Tryz.underlying49 rfl (by kernel_rfl) hk) ?_
                  | refine q_go ⟨_, ⟨0, #[]⟩, rfl⟩ (fun K' hk => q_call2 87 _ _ _ rfl (.agg X.val) rfl (.agg Y.val) rfl (by kernel_rfl) _ (fresh_grow hsame) hk) ?_); go_big_quiet_op; go_big_quiet_on)))
        refine wpQuiet_nil ?_
        intro W7 hW7'
        have hB7 := hB.trans ((below_of_grow hW7').mono hB.size)
        clear hW7' hcell hc2 hsame
        go_wp2
        go_roundw
        case rel => exact ⟨k + 1, by omega, by go_num, hB7⟩
        case measure => simp [intOf]; omega
      · have hd2 : decide ((k : Int) < (xs.length : Int)) = false := decide_eq_false (by omega)
        have hd3 : decide ((k : Int) ≥ (xs.length : Int)) = true := decide_eq_true (by omega)
        have hd4 : decide (xs.length ≤ k) = true := decide_eq_true (by omega)
        obtain ⟨q, hq⟩ : ∃ q, k = xs.length + q := ⟨k - xs.length, by omega⟩
        have hgm := gBV_marks (xs := xs) (q := q) (by omega)
        rw [← hq] at hgm
        rw [hgm] at hcell
        have hwr : IntKind.i64.wrap ((k : Int) - (xs.length : Int)) = (q : Int) := by rw [IntKind.wrap_i64]; omega
        have hq12 : q < 12 := by omega
        have hq' := Lib.hid hq
        clear hq hgm
        have hmk : ∀ W, Below wr.heap.size wr W → Calls Tryz.prog 80 #[.int .i64 1, .int .i64 q] W (Fresh W (.agg (markB q).val)) := fun W _ => markBlock_any q W (by omega)
        have hsame : ∀ W, Below wr.heap.size wr W → Calls Tryz.prog 88 #[.agg (markB q).val, .agg (markB q).val] W (Fresh W (.bool true)) := fun W hW => SameBlock_any (markB q) (markB q) rfl W (RRow.nil _ _) (RRow.nil _ _)
        generalize markB q = M at *
        clear hk
        go_wp2
        change Code.wp _ _ _ (Act.mk _ _) _
        refine wp_region_quiet_below (by kernel_rfl) (by kernel_rfl) ?_
        repeat (first
          | go_big_quiet_skip
          | (go_big_quiet_want; first
              | (go_big_quiet_op; go_big_quiet_on)
              | ((first
                  | refine q_go ⟨_, ⟨0, #[]⟩, rfl⟩ (fun K' hk => q_loadM _ _ rfl b (off + k * 5) rfl M.val.toList _ (fun W hW => blk_range (hcell W (below_of_grow hW))) Tryz.underlying49 rfl (by kernel_rfl) hk) ?_
                  | refine q_go ⟨_, ⟨0, #[]⟩, rfl⟩ (fun K' hk => q_call2 80 _ _ _ rfl (.int .i64 1) rfl (.int .i64 q) rfl (by kernel_rfl) _ (fresh_grow hmk) hk) ?_
                  | refine q_go ⟨_, ⟨0, #[]⟩, rfl⟩ (fun K' hk => q_call2 88 _ _ _ rfl (.agg M.val) rfl (.agg M.val) rfl (by kernel_rfl) _ (fresh_grow hsame) hk) ?_); go_big_quiet_op; go_big_quiet_on)))
        refine wpQuiet_nil ?_
        intro W7 hW7'
        have hB7 := hB.trans ((below_of_grow hW7').mono hB.size)
        clear hW7' hcell hmk hsame
        go_wp2
        go_roundw
        case rel => exact ⟨k + 1, by have := hq'.out; omega, by go_num, hB7⟩
        case measure => simp [intOf]; omega
    · obtain rfl : k = xs.length + 12 := by omega
      have hd1 : decide ((xs.length : Int) + 12 < (xs.length : Int) + 12) = false := by simp
      go_wp2
      go_ret
      exact ⟨rfl, hB⟩

set_option maxRecDepth 100000 in
set_option maxHeartbeats 2000000 in
theorem SameFunc_any (F G : FnV) (he : G.dat = F.dat) (w : World) (hx : RFn w F) (hy : RFn w G) :
    Calls Tryz.prog 67 #[F.val, G.val] w (Fresh w (.bool true)) := by
  obtain ⟨par, Ap, cp, bs, A, c⟩ := F
  obtain ⟨par2, Ap2, cp2, bs2, A2, c2⟩ := G
  simp only [FnV.dat, Prod.mk.injEq] at he
  obtain ⟨rfl, he⟩ := he
  obtain ⟨hx1, hx2⟩ := hx
  obtain ⟨hy1, hy2⟩ := hy
  simp only [FnV.val, FnV.pv] at *
  have hb1 := (Below.refl w.heap.size w).alloc (Nat.le_refl _) (.cells #[.slice Ap par2.length cp, .slice A bs.length c] 25)
  have hb2 := hb1.alloc (by simp) (.cells #[.slice Ap2 par2.length cp2, .slice A2 bs2.length c2] 25)
  have n1 := blk_new w (.cells #[.slice Ap par2.length cp, .slice A bs.length c] 25)
  have n1' := (blk_old (w.alloc (.cells #[.slice Ap par2.length cp, .slice A bs.length c] 25)) (.cells #[.slice Ap2 par2.length cp2, .slice A2 bs2.length c2] 25) (blk_lt n1)).trans n1
  have n2 := blk_new (w.alloc (.cells #[.slice Ap par2.length cp, .slice A bs.length c] 25)) (.cells #[.slice Ap2 par2.length cp2, .slice A2 bs2.length c2] 25)
  rw [World.size_alloc] at n2
  have hp := fun W hW => SameInts_any Ap Ap2 cp cp2 par2 par2 W (hx1.below (w' := W) hW) (hy1.below hW)
  have hb := fun W hW => SameBlocks_any A A2 c c2 bs bs2 he W (hx2.below (w' := W) hW) (hy2.below hW)
  have hd : decide (par2 = par2) = true := by simp
  rw [hd] at hp
  clear hd
  go_enter Tryz.func67, Tryz.ntmps67
  go_wp2_with fail
  refine (hp _ hb2).mono ?_
  rintro e W1 ⟨rfl, hb3⟩
  have m1 := blk_below hb3 n1' (blk_lt n1')
  have m2 := blk_below hb3 n2 (blk_lt n2)
  have gc1 := (cell_of_row _ _ 1 _ _ _ m1).trans (show #[.slice Ap par2.length cp, .slice A bs.length c][1]? = some (Value.slice A bs.length c) from rfl)
  have ge1 := (cell_of_row _ _ 1 _ _ _ m2).trans (show #[.slice Ap2 par2.length cp2, .slice A2 bs2.length c2][1]? = some (Value.slice A2 bs2.length c2) from rfl)
  have hB := hb2.trans (hb3.mono hb2.size)
  clear m1 m2 n1 n1' n2 hb1 hb2 hb3 hp
  go_wp2_with fail
  refine (hb _ hB).mono ?_
  rintro e W2 ⟨rfl, hb4⟩
  go_wp2
  go_ret
  exact ⟨rfl, hB.trans (hb4.mono hB.size)⟩

set_option maxRecDepth 100000 in
set_option maxHeartbeats 2000000 in
theorem KeptFunc_any (F G : FnV) (he : G.dat = F.dat) (w : World) (B : Nat) (hx : LentF w B F) (hy : RFn w G) :
    Calls Tryz.prog 27 #[F.val, G.val] w (Fresh w (.bool true)) := by
  have hsame := fun W hW => SameFunc_any F G he W (hx.fn.below (w' := W) hW) (hy.below hW)
  obtain ⟨par, Ap, cp, bs, A, c⟩ := F
  obtain ⟨par2, Ap2, cp2, bs2, A2, c2⟩ := G
  simp only [FnV.dat, Prod.mk.injEq] at he
  obtain ⟨rfl, he⟩ := he
  obtain ⟨hx1, hx2⟩ := hx
  obtain ⟨hy1, hy2⟩ := hy
  simp only [FnV.val, FnV.pv] at *
  have hb1 := (Below.refl w.heap.size w).alloc (Nat.le_refl _) (.cells #[.slice Ap par2.length cp, .slice A bs.length c] 25)
  have hb2 := hb1.alloc (by simp) (.cells #[.slice Ap2 par2.length cp2, .slice A2 bs2.length c2] 25)
  have n1 := blk_new w (.cells #[.slice Ap par2.length cp, .slice A bs.length c] 25)
  have n1' := (blk_old (w.alloc (.cells #[.slice Ap par2.length cp, .slice A bs.length c] 25)) (.cells #[.slice Ap2 par2.length cp2, .slice A2 bs2.length c2] 25) (blk_lt n1)).trans n1
  have n2 := blk_new (w.alloc (.cells #[.slice Ap par2.length cp, .slice A bs.length c] 25)) (.cells #[.slice Ap2 par2.length cp2, .slice A2 bs2.length c2] 25)
  rw [World.size_alloc] at n2
  go_enter Tryz.func27, Tryz.ntmps27
  go_wp2_with (first
    | (refine wpList_load_row rfl _ _ rfl _ rfl _ _ _ _ n1' Tryz.underlying25 rfl (by kernel_rfl) ?_)
    | (refine wpList_load_row rfl _ _ rfl _ rfl _ _ _ _ n2 Tryz.underlying25 rfl (by kernel_rfl) ?_))
  refine (hsame _ hb2).mono ?_
  rintro e W1 ⟨rfl, hb3⟩
  have m1 := blk_below hb3 n1' (blk_lt n1')
  have m2 := blk_below hb3 n2 (blk_lt n2)
  have gc0 := (cell_of_row _ _ 0 _ _ _ m1).trans (show #[.slice Ap par2.length cp, .slice A bs.length c][0]? = some (Value.slice Ap par2.length cp) from rfl)
  have ge0 := (cell_of_row _ _ 0 _ _ _ m2).trans (show #[.slice Ap2 par2.length cp2, .slice A2 bs2.length c2][0]? = some (Value.slice Ap2 par2.length cp2) from rfl)
  have hB := hb2.trans (hb3.mono hb2.size)
  clear n1 n1' n2 hb1 hb2 hb3 hsame
  go_wp2_with fail
  refine (KeptInts_any Ap Ap2 cp cp2 par2 _ B (hx1.below hB) (hy1.below hB)).mono ?_
  rintro e W2 ⟨rfl, hb4⟩
  have o1 := blk_below hb4 m1 (blk_lt m1)
  have o2 := blk_below hb4 m2 (blk_lt m2)
  have gd1 := (cell_of_row _ _ 1 _ _ _ o1).trans (show #[.slice Ap par2.length cp, .slice A bs.length c][1]? = some (Value.slice A bs.length c) from rfl)
  have gf1 := (cell_of_row _ _ 1 _ _ _ o2).trans (show #[.slice Ap2 par2.length cp2, .slice A2 bs2.length c2][1]? = some (Value.slice A2 bs2.length c2) from rfl)
  have hB2 := hB.trans (hb4.mono hB.size)
  clear m1 m2 o1 o2 hB hb4 gc0 ge0
  go_wp2_with fail
  refine (KeptBlocks_any A A2 c c2 bs bs2 he _ B (hx2.below hB2) (hy2.below hB2)).mono ?_
  rintro e W3 ⟨rfl, hb5⟩
  go_wp2
  go_ret
  exact ⟨rfl, hB2.trans (hb5.mono hB2.size)⟩

end Go.Proofs.YtjichaeegheacaaGreatDoor

/- RefTo -/
/-
  The document's answer for ends: intarsiaref03: Var, IsTerm, To.
-/
namespace Go.Proofs.YtjichaeegheacaaGreatDoor
open Go Go.RowKit

theorem run_equalIn_arr (d : Nat) (x y u v : Int) (w : World) : (Op.equalIn (d + 2) 45 (.agg #[.int .i64 x, .int .i64 y]) (.agg #[.int .i64 u, .int .i64 v])).run Tryz.prog w = .ok (x == u && y == v) w := by
  have e1 : ∀ z t : Int, (Op.equalIn (d + 1) 3 (.int .i64 z) (.int .i64 t)).run Tryz.prog w = .ok (z == t) w := fun z t => run_equalIn_int w d 3 .i64 .i64 z t Tryz.underlying3
  have p0 : ∀ x y : Int, (part 3 #[.int .i64 x, .int .i64 y] (0 * 1)).run Tryz.prog w = .ok (.int .i64 x) w := fun x y => by simp [part, isAgg, run_underlying Tryz.underlying3]
  have p1 : ∀ x y : Int, (part 3 #[.int .i64 x, .int .i64 y] (1 * 1)).run Tryz.prog w = .ok (.int .i64 y) w := fun x y => by simp [part, isAgg, run_underlying Tryz.underlying3]
  have q1 : ∀ x y : Int, (part 3 #[.int .i64 x, .int .i64 y] 1).run Tryz.prog w = .ok (.int .i64 y) w := p1
  rw [Op.equalIn]
  simp only [Sem.run_bind, run_underlying Tryz.underlying45, Result.andThen_ok, szInt, Std.Legacy.Range.forIn_eq_forIn_range', Std.Legacy.Range.size, Nat.sub_zero, Nat.add_sub_cancel, Nat.div_one]
  rw [show List.range' 0 2 1 = [0, 1] from rfl]
  simp only [List.forIn_cons, List.forIn_nil, Sem.run_bind, p0, e1, Result.andThen_ok]
  cases h1 : (x == u)
  · simp
  · cases h2 : (y == v)
    · simp [q1, e1, h2]
    · simp [q1, e1, h2]
theorem run_eql_arr (x y u v : Int) : ∃ b : Bool, ∀ w, (binOp .eql 45 (.agg #[.int .i64 x, .int .i64 y]) (.agg #[.int .i64 u, .int .i64 v])).run Tryz.prog w = .ok (.bool b) w :=
  ⟨_, fun w => by rw [run_eql_struct, run_equalIn_arr]; rfl⟩

theorem Var03_any (x : Int) (w : World) :
    Calls Tryz.prog 136 #[.int .i64 x] w (Fresh w (.bool (varB x))) := by
  unfold varB
  by_cases h : x ≥ 1
  · have h1 : decide (x ≥ 1) = true := decide_eq_true h
    have h2 : decide (1 ≤ x) = true := decide_eq_true h
    rw [h2, Bool.true_and]
    go_enter Tryz.func136, Tryz.ntmps136
    go_wp2
    go_ret
    exact ⟨rfl, Below.refl _ _⟩
  · have h1 : decide (x ≥ 1) = false := decide_eq_false h
    have h2 : decide (1 ≤ x) = false := decide_eq_false h
    rw [h2, Bool.false_and]
    go_enter Tryz.func136, Tryz.ntmps136
    go_wp2
    go_ret
    exact ⟨rfl, Below.refl _ _⟩

theorem box_facts {w w' : World} {k a t0 t1 : Int} (hb : Below (w.alloc (.cells #[.int .i64 k, .int .i64 a, .int .i64 t0, .int .i64 t1] 47)).heap.size (w.alloc (.cells #[.int .i64 k, .int .i64 a, .int .i64 t0, .int .i64 t1] 47)) w') :
    w'.cell? ⟨w.heap.size, 0, none⟩ = some (.int .i64 k) ∧ w'.cell? ⟨w.heap.size, 1, none⟩ = some (.int .i64 a) ∧ w'.cell? ⟨w.heap.size, 2, none⟩ = some (.int .i64 t0) ∧ w'.cell? ⟨w.heap.size, 3, none⟩ = some (.int .i64 t1) := by
  have hbox := blk_new w (.cells #[.int .i64 k, .int .i64 a, .int .i64 t0, .int .i64 t1] 47)
  have hs := blk_below hb hbox (blk_lt hbox)
  exact ⟨(cell_of_row _ _ 0 _ _ _ hs).trans rfl, (cell_of_row _ _ 1 _ _ _ hs).trans rfl, (cell_of_row _ _ 2 _ _ _ hs).trans rfl, (cell_of_row _ _ 3 _ _ _ hs).trans rfl⟩

set_option maxRecDepth 100000 in
set_option maxHeartbeats 2000000 in
theorem IsTerm03_any (t : Tm) (w : World) :
    Calls Tryz.prog 109 #[.agg t.val] w fun e w' => ∃ b : Bool, e = .returned (.bool b) ∧ (t.k = 1 ∨ t.k = 2 → b = isTermB t) ∧ Below w.heap.size w w' := by
  obtain ⟨k, a, t0, t1⟩ := t
  have hv : Tm.val ⟨k, a, t0, t1⟩ = #[.int .i64 k, .int .i64 a, .int .i64 t0, .int .i64 t1] := rfl
  rw [hv]
  have hb0 : Below w.heap.size w (w.alloc (.cells #[.int .i64 k, .int .i64 a, .int .i64 t0, .int .i64 t1] 47)) := (Below.refl _ _).alloc (Nat.le_refl _) _
  by_cases k1 : k = 1
  · subst k1
    have e : isTermB ⟨1, a, t0, t1⟩ = (decide (a = 0) && decide (t1 = 0)) := by
      show noneB [a, t1] = _
      unfold noneB
      by_cases ha : a = 0 <;> by_cases h1 : t1 = 0 <;> simp [ha, h1]
    have e' := Lib.hid e
    clear e
    by_cases ha : a = 0
    · have d1 : (a == 0) = true := by simpa using ha
      by_cases h1 : t1 = 0
      · have d2 : (t1 == 0) = true := by simpa using h1
        have e2 := Lib.hid (show true = (decide (a = 0) && decide (t1 = 0)) by simp [ha, h1])
        clear ha h1
        go_enter Tryz.func109, Tryz.ntmps109
        go_wp2
        go_ret
        exact ⟨_, rfl, fun _ => e2.out.trans e'.out.symm, hb0⟩
      · have d2 : (t1 == 0) = false := by simpa using h1
        have e2 := Lib.hid (show false = (decide (a = 0) && decide (t1 = 0)) by simp [ha, h1])
        clear ha h1
        go_enter Tryz.func109, Tryz.ntmps109
        go_wp2
        go_ret
        exact ⟨_, rfl, fun _ => e2.out.trans e'.out.symm, hb0⟩
    · have d1 : (a == 0) = false := by simpa using ha
      have e2 := Lib.hid (show false = (decide (a = 0) && decide (t1 = 0)) by simp [ha])
      clear ha
      go_enter Tryz.func109, Tryz.ntmps109
      go_wp2
      go_ret
      exact ⟨_, rfl, fun _ => e2.out.trans e'.out.symm, hb0⟩
  · have k1' : (k == 1) = false := by simpa using k1
    by_cases k2 : k = 2
    · subst k2
      have e : isTermB ⟨2, a, t0, t1⟩ = varB a := rfl
      have e' := Lib.hid e
      clear e
      have q := fun W => Var03_any a W
      generalize varB a = v at *
      go_enter Tryz.func109, Tryz.ntmps109
      go_wp2_with fail
      refine (q _).mono ?_
      rintro e W1 ⟨rfl, hb1⟩
      go_wp2
      go_ret
      exact ⟨v, rfl, fun _ => e'.out.symm, hb0.trans (hb1.mono hb0.size)⟩
    · have k2' : (k == 2) = false := by simpa using k2
      have hno : (k = 1 ∨ k = 2 → ∀ b : Bool, b = isTermB ⟨k, a, t0, t1⟩) := fun h => by omega
      have hno' := Lib.hid hno
      obtain ⟨be, heq⟩ := run_eql_arr t0 t1 0 0
      clear hno
      by_cases k3 : k = 3
      · subst k3
        by_cases ha : a = 0
        · have d1 : (a == 0) = true := by simpa using ha
          clear ha
          go_enter Tryz.func109, Tryz.ntmps109
          go_wp2
          go_ret
          exact ⟨_, rfl, fun h => hno'.out h _, hb0⟩
        · have d1 : (a == 0) = false := by simpa using ha
          have q := fun W => Var03_any a W
          clear ha
          generalize varB a = v at *
          go_enter Tryz.func109, Tryz.ntmps109
          go_wp2_with fail
          refine (q _).mono ?_
          rintro e W1 ⟨rfl, hb1⟩
          obtain ⟨c0, c1, c2, c3⟩ := box_facts hb1
          cases v
          all_goals
            go_wp2
            go_ret
            exact ⟨_, rfl, fun h => hno'.out h _, hb0.trans (hb1.mono hb0.size)⟩
      · have k3' : (k == 3) = false := by simpa using k3
        by_cases k4 : k = 4
        · subst k4
          by_cases ha : a = 0
          · have d1 : (a == 0) = true := by simpa using ha
            clear ha
            go_enter Tryz.func109, Tryz.ntmps109
            go_wp2
            go_ret
            exact ⟨_, rfl, fun h => hno'.out h _, hb0⟩
          · have d1 : (a == 0) = false := by simpa using ha
            clear ha
            go_enter Tryz.func109, Tryz.ntmps109
            go_wp2
            go_ret
            exact ⟨_, rfl, fun h => hno'.out h _, hb0⟩
        · have k4' : (k == 4) = false := by simpa using k4
          clear k1 k2 k3 k4
          go_enter Tryz.func109, Tryz.ntmps109
          go_wp2
          go_ret
          exact ⟨_, rfl, fun h => hno'.out h _, hb0⟩

set_option maxRecDepth 100000 in
set_option maxHeartbeats 1000000 in
theorem To03_any (t : Tm) (w : World) : Calls Tryz.prog 82 #[.agg t.val] w (FreshInts w (toL t)) := by
  have q := fun W => IsTerm03_any t W
  have hto : toL t = if isTermB t then (if t.k = 1 then [t.t0] else if t.k = 2 then [t.t0, t.t1] else []) else [] := rfl
  obtain ⟨k, a, t0, t1⟩ := t
  simp only at hto q
  have hv : Tm.val ⟨k, a, t0, t1⟩ = #[.int .i64 k, .int .i64 a, .int .i64 t0, .int .i64 t1] := rfl
  rw [hv] at q ⊢
  have hb0 : Below w.heap.size w (w.alloc (.cells #[.int .i64 k, .int .i64 a, .int .i64 t0, .int .i64 t1] 47)) := (Below.refl _ _).alloc (Nat.le_refl _) _
  rw [hto]
  clear hto hv
  generalize isTermB ⟨k, a, t0, t1⟩ = it at *
  by_cases k1 : k = 1
  · subst k1
    simp only [true_or, true_implies, if_true] at q ⊢
    cases it
    · simp only [Bool.false_eq_true, if_false]
      go_enter Tryz.func82, Tryz.ntmps82
      go_wp2_with fail
      refine (q _).mono ?_
      rintro e w' ⟨b, rfl, rfl, hb⟩
      go_wp2
      go_ret
      exact fresh_nil _ _ (hb0.trans (hb.mono hb0.size))
    · simp only [if_true]
      go_enter Tryz.func82, Tryz.ntmps82
      go_wp2_with fail
      refine (q _).mono ?_
      rintro e w' ⟨b, rfl, rfl, hb⟩
      obtain ⟨c0, c1, c2, c3⟩ := box_facts hb
      have hb1 := hb0.trans (hb.mono hb0.size)
      go_wp2
      go_ret
      have own : (w'.alloc (.cells #[.int .i64 t0] 3)).ownsRow w.heap.size 3 1 (.slice (some ⟨w'.heap.size, 0, none⟩) 1 1) 1 [.int .i64 t0] :=
        ⟨rfl, .inr ⟨w'.heap.size, 1, #[.int .i64 t0], rfl, hb1.size, blk_new w' _, Nat.le_refl _, by decide, rfl, rfl⟩⟩
      exact ⟨_, rfl, own, by simp, hb1.alloc hb1.size _⟩
  · have k1' : (k == 1) = false := by simpa using k1
    by_cases k2 : k = 2
    · subst k2
      simp only [or_true, true_implies] at q
      cases it
      · simp only [Bool.false_eq_true, if_false]
        go_enter Tryz.func82, Tryz.ntmps82
        go_wp2_with fail
        refine (q _).mono ?_
        rintro e w' ⟨b, rfl, rfl, hb⟩
        go_wp2
        go_ret
        exact fresh_nil _ _ (hb0.trans (hb.mono hb0.size))
      · rw [if_pos rfl, if_neg (by decide), if_pos rfl]
        go_enter Tryz.func82, Tryz.ntmps82
        go_wp2_with fail
        refine (q _).mono ?_
        rintro e w' ⟨b, rfl, rfl, hb⟩
        obtain ⟨c0, c1, c2, c3⟩ := box_facts hb
        have hb1 := hb0.trans (hb.mono hb0.size)
        go_wp2
        go_ret
        have own : (w'.alloc (.cells #[.int .i64 t0, .int .i64 t1] 3)).ownsRow w.heap.size 3 1 (.slice (some ⟨w'.heap.size, 0, none⟩) 2 2) 2 [.int .i64 t0, .int .i64 t1] :=
          ⟨rfl, .inr ⟨w'.heap.size, 2, #[.int .i64 t0, .int .i64 t1], rfl, hb1.size, blk_new w' _, Nat.le_refl _, by decide, rfl, rfl⟩⟩
        exact ⟨_, rfl, own, by simp, hb1.alloc hb1.size _⟩
    · have k2' : (k == 2) = false := by simpa using k2
      rw [if_neg k1, if_neg k2]
      have hz : (if it = true then ([] : List Int) else []) = [] := by cases it <;> rfl
      rw [hz]
      have q2 : ∀ W, Calls Tryz.prog 109 #[.agg #[.int .i64 k, .int .i64 a, .int .i64 t0, .int .i64 t1]] W fun e w' => ∃ b : Bool, e = .returned (.bool b) ∧ Below W.heap.size W w' := fun W => (q W).mono fun e w' ⟨b, h1, _, h3⟩ => ⟨b, h1, h3⟩
      clear q hz k1 k2
      go_enter Tryz.func82, Tryz.ntmps82
      go_wp2_with fail
      refine (q2 _).mono ?_
      rintro e w' ⟨b, rfl, hb⟩
      obtain ⟨c0, c1, c2, c3⟩ := box_facts hb
      have hb1 := hb0.trans (hb.mono hb0.size)
      cases b
      all_goals
        go_wp2
        go_ret
        exact fresh_nil _ _ hb1

end Go.Proofs.YtjichaeegheacaaGreatDoor

/- RefA -/
/-
  The document's answer for package flow: all, Closed, Edges, Into, From, Critical; has; the compare of edges.
-/
namespace Go.Proofs.YtjichaeegheacaaGreatDoor
open Go Go.RowKit

theorem take_has0 {xs : List Int} {k : Nat} (hk : k < xs.length) (n : Int) (h : (xs.take k).contains n = false) (hne : gI xs k ≠ n) : (xs.take (k + 1)).contains n = false := by
  rw [List.take_succ_eq_append_getElem hk, ← gI_eq hk]
  cases hc : (xs.take k ++ [gI xs k]).contains n with
  | false => rfl
  | true =>
    rw [List.contains_iff_mem, List.mem_append] at hc
    rcases hc with hc | hc
    · rw [List.contains_iff_mem.2 hc] at h; cases h
    · simp at hc; exact absurd hc.symm hne

set_option maxRecDepth 100000 in
set_option maxHeartbeats 1000000 in
theorem has10_any (A : Option Addr) (c : Nat) (xs : List Int) (n : Int) (w : World) (hr : RI w A xs) :
    Calls Tryz.prog 66 #[.slice A xs.length c, .int .i64 n] w fun e w' => e = .returned (.bool (xs.contains n)) ∧ w' = w := by
  have hl := hr.len
  go_enter Tryz.func66, Tryz.ntmps66
  go_wp2
  go_loopw [5] (fun i W => ∃ k : Nat, k ≤ xs.length ∧ i = .int .i64 k ∧ (xs.take k).contains n = false ∧ W = w) (fun i _ => xs.length - (intOf i).toNat)
  case atStart => exact ⟨0, Nat.zero_le _, rfl, rfl, rfl⟩
  case round =>
    obtain ⟨k, hk, rfl, hn, rfl⟩ := hrel
    by_cases hlt : k < xs.length
    · obtain ⟨b, off, rfl, hbl, hcell, hx⟩ := hr.at_ hlt
      have hd : decide ((k : Int) < (xs.length : Int)) = true := decide_eq_true (by omega)
      by_cases he : gI xs k = n
      · have hp : xs.contains n = true := by rw [← he]; exact List.contains_iff_mem.2 (gI_mem hlt)
        have hp' := Lib.hid hp
        have he' : (gI xs k == n) = true := by simpa using he
        clear hp hn
        rw [he] at hcell
        clear he he'
        go_wp2
        go_ret
        exact ⟨by rw [hp'.out]; rfl, rfl⟩
      · have hn2 := take_has0 hlt n hn he
        have he' : (gI xs k == n) = false := by simpa using he
        have hn3 := Lib.hid hn2
        clear hn hn2
        go_wp2
        go_roundw
        case rel => exact ⟨k + 1, by omega, by go_num, hn3.out, by trivial⟩
        case measure => simp [intOf]; omega
    · obtain rfl : k = xs.length := by omega
      have hd : decide ((xs.length : Int) < (xs.length : Int)) = false := by simp
      rw [List.take_length] at hn
      have hp' := Lib.hid hn
      clear hn
      go_wp2
      go_ret
      exact ⟨by rw [hp'.out]; rfl, rfl⟩

set_option maxRecDepth 100000 in
set_option maxHeartbeats 1000000 in
theorem has11r_any (A : Option Addr) (c : Nat) (xs : List Int) (n : Int) (w : World) (hr : RI w A xs) :
    Calls Tryz.prog 75 #[.slice A xs.length c, .int .i64 n] w fun e w' => e = .returned (.bool (xs.contains n)) ∧ w' = w := by
  have hl := hr.len
  go_enter Tryz.func75, Tryz.ntmps75
  go_wp2
  go_loopw [5] (fun i W => ∃ k : Nat, k ≤ xs.length ∧ i = .int .i64 k ∧ (xs.take k).contains n = false ∧ W = w) (fun i _ => xs.length - (intOf i).toNat)
  case atStart => exact ⟨0, Nat.zero_le _, rfl, rfl, rfl⟩
  case round =>
    obtain ⟨k, hk, rfl, hn, rfl⟩ := hrel
    by_cases hlt : k < xs.length
    · obtain ⟨b, off, rfl, hbl, hcell, hx⟩ := hr.at_ hlt
      have hd : decide ((k : Int) < (xs.length : Int)) = true := decide_eq_true (by omega)
      by_cases he : gI xs k = n
      · have hp : xs.contains n = true := by rw [← he]; exact List.contains_iff_mem.2 (gI_mem hlt)
        have hp' := Lib.hid hp
        have he' : (gI xs k == n) = true := by simpa using he
        clear hp hn
        rw [he] at hcell
        clear he he'
        go_wp2
        go_ret
        exact ⟨by rw [hp'.out]; rfl, rfl⟩
      · have hn2 := take_has0 hlt n hn he
        have he' : (gI xs k == n) = false := by simpa using he
        have hn3 := Lib.hid hn2
        clear hn hn2
        go_wp2
        go_roundw
        case rel => exact ⟨k + 1, by omega, by go_num, hn3.out, by trivial⟩
        case measure => simp [intOf]; omega
    · obtain rfl : k = xs.length := by omega
      have hd : decide ((xs.length : Int) < (xs.length : Int)) = false := by simp
      rw [List.take_length] at hn
      have hp' := Lib.hid hn
      clear hn
      go_wp2
      go_ret
      exact ⟨by rw [hp'.out]; rfl, rfl⟩


theorem run_equalIn_edg (d : Nat) (a b c : Int) (w : World) : (Op.equalIn (d + 2) 58 (.agg #[.int .i64 a, .int .i64 b, .int .i64 c]) (.agg #[.int .i64 a, .int .i64 b, .int .i64 c])).run Tryz.prog w = .ok true w := by
  simp [Op.equalIn, run_underlying Tryz.underlying58, part, isAgg, run_underlying Tryz.underlying3, Sem.run_bind, sizeOf, typeInfo, run_program]
theorem run_neq_edg (a b c : Int) (w : World) : (binOp .neq 58 (.agg #[.int .i64 a, .int .i64 b, .int .i64 c]) (.agg #[.int .i64 a, .int .i64 b, .int .i64 c])).run Tryz.prog w = .ok (.bool false) w := by
  rw [run_neq_struct, run_equalIn_edg]
  rfl
section
variable {C : World → Prop} {a : Act} {o : Oper} {K : Act → Prop}
theorem q_edg_ne (x y : Operand) (p q r : Int) (ho : o.op = .binOp .neq 58 x y 58) (hx : a.eval x = .agg #[.int .i64 p, .int .i64 q, .int .i64 r]) (hy : a.eval y = .agg #[.int .i64 p, .int .i64 q, .int .i64 r])
    (hk : K (a.put o.dst (.bool false))) : o.quiet Tryz.prog a C K := by
  refine ⟨.bool false, fun W hW => ?_, hk⟩
  unfold Oper.quietAt execOp
  simp only [ho, hx, hy]
  have hg : (eqGuard .neq 58 x y (.agg #[.int .i64 p, .int .i64 q, .int .i64 r]) (.agg #[.int .i64 p, .int .i64 q, .int .i64 r])).run Tryz.prog W = .ok () W := run_eqGuard_agg W _ _ _ _ _ _ (by kernel_rfl)
  simp [Sem.run_bind, hg, run_neq_edg, Oper.quietUpon]
end
theorem edg_range {W : World} {b f : Nat} {p q r : Int} (h : W.cell? ⟨b, f, none⟩ = some (.int .i64 p) ∧ W.cell? ⟨b, f + 1, none⟩ = some (.int .i64 q) ∧ W.cell? ⟨b, f + 2, none⟩ = some (.int .i64 r)) : W.rangeAt b f [.int .i64 p, .int .i64 q, .int .i64 r] := by
  intro j v hv
  match j, hv with
  | 0, hv => simp at hv; subst hv; exact h.1
  | 1, hv => simp at hv; subst hv; exact h.2.1
  | 2, hv => simp at hv; subst hv; exact h.2.2

set_option maxRecDepth 100000 in
set_option maxHeartbeats 2000000 in
theorem same10_any (A A2 : Option Addr) (c c2 : Nat) (es : List Ed) (w : World) (hx : RE w A es) (hy : RE w A2 es) :
    Calls Tryz.prog 13 #[.slice A es.length c, .slice A2 es.length c2] w (Fresh w (.bool true)) := by
  have hlx := hx.len
  have hn0 : ((es.length : Int) != (es.length : Int)) = false := by simp
  go_enter Tryz.func13, Tryz.ntmps13
  go_wp2
  go_loopw [5] (fun v5 W => ∃ k : Nat, k ≤ es.length ∧ v5 = .int .i64 k ∧ Below w.heap.size w W) (fun v5 _ => es.length - (intOf v5).toNat)
  case atStart => exact ⟨0, by omega, rfl, Below.refl _ _⟩
  case round =>
    obtain ⟨k, hk, rfl, hB⟩ := hrel
    by_cases hlt : k < es.length
    · have hd1 : decide ((k : Int) < (es.length : Int)) = true := decide_eq_true (by omega)
      have hk2 : (k : Int) < (es.length : Int) := by omega
      have hk4 : (0 : Int) ≤ (k : Int) := by omega
      obtain ⟨b, off, rfl, hbl, hc1⟩ := (hx.below hB).rd k hlt
      obtain ⟨b2, off2, rfl, hbl2, hc2⟩ := (hy.below hB).rd k hlt
      generalize gE es k = E at *
      obtain ⟨ef, ea, et⟩ := E
      simp only at hc1 hc2
      go_wp2
      change Code.wp _ _ _ (Act.mk _ _) _
      refine wp_region_quiet_below (by kernel_rfl) (by kernel_rfl) ?_
      repeat (first
        | go_big_quiet_skip
        | (go_big_quiet_want; first
            | (go_big_quiet_op; go_big_quiet_on)
            | ((first
                | refine q_go ⟨_, ⟨0, #[]⟩, rfl⟩ (fun K' hk => q_loadM _ _ rfl b (off + k * 3) rfl [.int .i64 ef, .int .i64 ea, .int .i64 et] _ (fun W hW => edg_range (hc1 W (below_of_grow hW))) Tryz.underlying58 rfl (by kernel_rfl) hk) ?_
                | refine q_go ⟨_, ⟨0, #[]⟩, rfl⟩ (fun K' hk => q_loadM _ _ rfl b2 (off2 + k * 3) rfl [.int .i64 ef, .int .i64 ea, .int .i64 et] _ (fun W hW => edg_range (hc2 W (below_of_grow hW))) Tryz.underlying58 rfl (by kernel_rfl) hk) ?_
                | refine q_go ⟨_, ⟨0, #[]⟩, rfl⟩ (fun K' hk => q_edg_ne _ _ ef ea et rfl rfl rfl hk) ?_); go_big_quiet_op; go_big_quiet_on)))
      refine wpQuiet_nil ?_
      intro W7 hW7'
      have hB7 := hB.trans ((below_of_grow hW7').mono hB.size)
      clear hW7' hc1 hc2
      go_wp2
      go_roundw
      case rel => exact ⟨k + 1, by omega, by go_num, hB7⟩
      case measure => simp [intOf]; omega
    · obtain rfl : k = es.length := by omega
      have hd1 : decide ((es.length : Int) < (es.length : Int)) = false := by simp
      go_wp2
      go_ret
      exact ⟨rfl, hB⟩

set_option maxRecDepth 100000 in
set_option maxHeartbeats 2000000 in
theorem same11_any (A A2 : Option Addr) (c c2 : Nat) (es : List Ed) (w : World) (hx : RE w A es) (hy : RE w A2 es) :
    Calls Tryz.prog 42 #[.slice A es.length c, .slice A2 es.length c2] w (Fresh w (.bool true)) := by
  have hlx := hx.len
  have hn0 : ((es.length : Int) != (es.length : Int)) = false := by simp
  go_enter Tryz.func42, Tryz.ntmps42
  go_wp2
  go_loopw [5] (fun v5 W => ∃ k : Nat, k ≤ es.length ∧ v5 = .int .i64 k ∧ Below w.heap.size w W) (fun v5 _ => es.length - (intOf v5).toNat)
  case atStart => exact ⟨0, by omega, rfl, Below.refl _ _⟩
  case round =>
    obtain ⟨k, hk, rfl, hB⟩ := hrel
    by_cases hlt : k < es.length
    · have hd1 : decide ((k : Int) < (es.length : Int)) = true := decide_eq_true (by omega)
      have hk2 : (k : Int) < (es.length : Int) := by omega
      have hk4 : (0 : Int) ≤ (k : Int) := by omega
      obtain ⟨b, off, rfl, hbl, hc1⟩ := (hx.below hB).rd k hlt
      obtain ⟨b2, off2, rfl, hbl2, hc2⟩ := (hy.below hB).rd k hlt
      generalize gE es k = E at *
      obtain ⟨ef, ea, et⟩ := E
      simp only at hc1 hc2
      go_wp2
      change Code.wp _ _ _ (Act.mk _ _) _
      refine wp_region_quiet_below (by kernel_rfl) (by kernel_rfl) ?_
      repeat (first
        | go_big_quiet_skip
        | (go_big_quiet_want; first
            | (go_big_quiet_op; go_big_quiet_on)
            | ((first
                | refine q_go ⟨_, ⟨0, #[]⟩, rfl⟩ (fun K' hk => q_loadM _ _ rfl b (off + k * 3) rfl [.int .i64 ef, .int .i64 ea, .int .i64 et] _ (fun W hW => edg_range (hc1 W (below_of_grow hW))) Tryz.underlying58 rfl (by kernel_rfl) hk) ?_
                | refine q_go ⟨_, ⟨0, #[]⟩, rfl⟩ (fun K' hk => q_loadM _ _ rfl b2 (off2 + k * 3) rfl [.int .i64 ef, .int .i64 ea, .int .i64 et] _ (fun W hW => edg_range (hc2 W (below_of_grow hW))) Tryz.underlying58 rfl (by kernel_rfl) hk) ?_
                | refine q_go ⟨_, ⟨0, #[]⟩, rfl⟩ (fun K' hk => q_edg_ne _ _ ef ea et rfl rfl rfl hk) ?_); go_big_quiet_op; go_big_quiet_on)))
      refine wpQuiet_nil ?_
      intro W7 hW7'
      have hB7 := hB.trans ((below_of_grow hW7').mono hB.size)
      clear hW7' hc1 hc2
      go_wp2
      go_roundw
      case rel => exact ⟨k + 1, by omega, by go_num, hB7⟩
      case measure => simp [intOf]; omega
    · obtain rfl : k = es.length := by omega
      have hd1 : decide ((es.length : Int) < (es.length : Int)) = false := by simp
      go_wp2
      go_ret
      exact ⟨rfl, hB⟩

/-- A call that hands back a row of edges of its own. -/
def OwnEds (w : World) (xs : List Ed) (e : Ending) (w' : World) : Prop := ∃ v, e = .returned v ∧ w'.ownsRow w.heap.size 58 3 v xs.length (edCells xs) ∧ Below w.heap.size w w'
theorem OwnEds.mono {w0 w : World} {xs : List Ed} (h0 : Below w0.heap.size w0 w) {e : Ending} {w' : World} (h : OwnEds w xs e w') : OwnEds w0 xs e w' := by
  obtain ⟨v, he, ho, hb⟩ := h
  exact ⟨v, he, own_down ho h0.size, h0.trans (hb.mono h0.size)⟩

set_option maxRecDepth 100000 in
set_option maxHeartbeats 2000000 in
theorem all10_any (P : Value) (A : Option Addr) (c : Nat) (bs : List Blk) (w : World) (hr : RF w A bs) (hl : bs.length ≤ 1000) :
    Calls Tryz.prog 51 #[.agg #[P, .slice A bs.length c]] w (OwnEds w (edgesOf bs)) := by
  have hb0 := (Below.refl w.heap.size w).alloc (Nat.le_refl _) (.cells #[P, .slice A bs.length c] 25)
  have hs := blk_new w (.cells #[P, .slice A bs.length c] 25)
  go_enter Tryz.func51, Tryz.ntmps51
  go_wp2
  obtain ⟨w1, hw1⟩ : ∃ w1, w1 = w.alloc (.cells #[P, .slice A bs.length c] 25) := ⟨_, rfl⟩
  rw [← hw1] at hb0 hs
  have hb0' := Lib.hid hb0
  go_loopw [3, 4, 5] (fun v3 v4 _ W => ∃ k : Nat, k ≤ bs.length ∧ v4 = .int .i64 k ∧ W.ownsRow w1.heap.size 58 3 v3 (edgesTo bs k).length (edCells (edgesTo bs k)) ∧ Below w1.heap.size w1 W) (fun _ v4 _ _ => bs.length - (intOf v4).toNat)
  case atStart => exact ⟨0, Nat.zero_le _, rfl, World.ownsRow_nil _ _ _ _, hw1 ▸ Below.refl _ _⟩
  case round =>
    clear hw1
    obtain ⟨k, hk, rfl, hown, hb⟩ := hrel
    have hs1 := blk_below hb hs (blk_lt hs)
    have d1 : wr.cell? ⟨w.heap.size, 1, none⟩ = some (.slice A bs.length c) := (cell_of_row _ _ _ _ _ _ hs1).trans rfl
    by_cases hkl : k < bs.length
    · have hd : decide ((k : Int) < (bs.length : Int)) = true := decide_eq_true (by omega)
      have hk2 : (k : Int) < (bs.length : Int) := by omega
      have hk4 : (0 : Int) ≤ (k : Int) := by omega
      obtain ⟨b, off, rfl, hbl, hok, hcell⟩ := ((hr.below hb0).below hb).at_ hkl
      have q1 := hcell 1 (by decide)
      have q2 := hcell 2 (by decide)
      have q3 := hcell 3 (by decide)
      have q4 := hcell 4 (by decide)
      simp only [Blk.cell] at q1 q2 q3 q4
      have hel := edgesTo_len bs k
      have hto := fun W => To03_any (gB bs k).t W
      have hes := Lib.hid (show edgesTo bs (k + 1) = edgesTo bs k ++ armE k (toL (gB bs k).t) (toL (gB bs k).t).length from rfl)
      have htl := toL_len (gB bs k).t
      have hti := toL_i64 hok
      generalize toL (gB bs k).t = l at *
      generalize (gB bs k).t = t at *
      obtain ⟨tk, ta, t0, t1⟩ := t
      rw [show off + 5 * k + 1 = off + k * 5 + 1 by omega] at q1
      rw [show off + 5 * k + 2 = off + k * 5 + 1 + 1 by omega] at q2
      rw [show off + 5 * k + 3 = off + k * 5 + 1 + 2 by omega] at q3
      rw [show off + 5 * k + 4 = off + k * 5 + 1 + 3 by omega] at q4
      have q1' : wr.cell? ⟨b, off + k * 5 + 1, none⟩ = some (.int .i64 tk) := q1
      have q2' : wr.cell? ⟨b, off + k * 5 + 1 + 1, none⟩ = some (.int .i64 ta) := q2
      have q3' : wr.cell? ⟨b, off + k * 5 + 1 + 2, none⟩ = some (.int .i64 t0) := q3
      have q4' : wr.cell? ⟨b, off + k * 5 + 1 + 3, none⟩ = some (.int .i64 t1) := q4
      clear q1 q2 q3 q4 hcell
      have hti' := Lib.hid hti
      clear hti
      go_wp2_with fail
      refine (hto _).mono ?_
      rintro e W2 ⟨v5, rfl, ho5, hn5, hb5⟩
      have hown2 := own_below hown hb5
      have hb2 := hb.trans (hb5.mono hb.size)
      obtain ⟨A5, c5, rfl⟩ := own_form ho5
      have ho5' := own_down ho5 hb.size
      clear hown hb hb5 ho5 hn5 hto hs1 d1 q1' q2' q3' q4'
      go_wp2
      go_loopw [3, 6] (fun v3 v6 W => ∃ m : Nat, m ≤ l.length ∧ v6 = .int .i64 m ∧ W.ownsRow w1.heap.size 58 3 v3 ((edgesTo bs k).length + m) (edCells (edgesTo bs k ++ armE k l m)) ∧ W.ownsRow w1.heap.size 3 1 (.slice A5 l.length c5) l.length (l.map (Value.int .i64)) ∧ Below w1.heap.size w1 W) (fun _ v6 _ => l.length - (intOf v6).toNat)
      case atStart => exact ⟨0, Nat.zero_le _, rfl, by simpa [armE] using hown2, ho5', hb2⟩
      case round =>
        clear hown2 ho5' hb2
        obtain ⟨m, hm, rfl, hown, ho5, hb⟩ := hrel
        have hs1 := blk_below hb hs (blk_lt hs)
        by_cases hml : m < l.length
        · have hd2 : decide ((m : Int) < (l.length : Int)) = true := decide_eq_true (by omega)
          have hm2 : (m : Int) < (l.length : Int) := by omega
          have hm4 : (0 : Int) ≤ (m : Int) := by omega
          obtain ⟨A6, c6, e6, _, hR⟩ := own_RI ho5 hti'.out (by omega)
          simp only [Value.slice.injEq, true_and] at e6
          obtain ⟨rfl, rfl⟩ := e6
          obtain ⟨b5, o5, rfl, hb5, hc5, _⟩ := hR.at_ hml
          have n6 := blk_new wr (.cells #[.int .i64 k, .int .i64 m, .int .i64 (gI l m)] 58)
          have hb6 := (Below.refl wr.heap.size wr).alloc (Nat.le_refl _) (.cells #[.int .i64 k, .int .i64 m, .int .i64 (gI l m)] 58)
          have hown6 := own_below hown hb6
          have ho6 := own_below ho5 hb6
          have hbb := hb.trans (hb6.mono hb.size)
          have hS6 := hbb.size
          have has := Lib.hid (armE_succ k l m)
          go_wp2_with (refine wpList_appRow rfl _ _ 32 58 3 24 _ rfl Tryz.underlying32 infoEdge rfl (by decide) (by decide) w1.heap.size _ rfl _ _ hown6 (by omega) _ _ #[.int .i64 k, .int .i64 m, .int .i64 (gI l m)] rfl n6 rfl (by simp [int_one]) hS6 ?_; intro v9 W8 hown8 hg8)
          have hB8 := grown_up hown6 hbb hg8 hS6
          have ho8 := own_other ho6 hown6 (by decide) hg8
          have hown9 : W8.ownsRow w1.heap.size 58 3 v9 ((edgesTo bs k).length + (m + 1)) (edCells (edgesTo bs k ++ armE k l (m + 1))) := by
            rw [has.out, ← List.append_assoc, edCells_append]
            exact hown8
          clear hown8
          go_roundw
          case rel => exact ⟨m + 1, by omega, by go_num, hown9, ho8, hB8⟩
          case measure => simp [intOf]; omega
        · obtain rfl : m = l.length := by omega
          have hd2 : decide ((l.length : Int) < (l.length : Int)) = false := by simp
          have hown9 : wr.ownsRow w1.heap.size 58 3 u3 (edgesTo bs (k + 1)).length (edCells (edgesTo bs (k + 1))) := by
            rw [hes.out, List.length_append, armE_len]
            exact hown
          have hown9' := Lib.hid hown9
          clear hown hown9
          go_wp2
          go_roundw
          case rel => exact ⟨k + 1, by omega, by go_num, hown9'.out, hb⟩
          case measure => simp [intOf]; omega
    · obtain rfl : k = bs.length := by omega
      have hd : decide ((bs.length : Int) < (bs.length : Int)) = false := by simp
      go_wp2
      go_ret
      exact ⟨_, rfl, own_down hown hb0'.out.size, hb0'.out.trans (hb.mono hb0'.out.size)⟩

end Go.Proofs.YtjichaeegheacaaGreatDoor
