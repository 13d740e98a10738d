/-
  LentB Kept KeptR
-/
import Derived.Test.YtjichaeegheacaaGreatDoorFT12

/- LentB -/
/-
  intarsiakit: blocks and functions that are lent.
-/
namespace Go.Proofs.YtjichaeegheacaaGreatDoor
open Go Go.RowKit

/-- Blocks that are lent. -/
def LentB (w : World) (B : Nat) (A : Option Addr) (c : Nat) (bs : List BlkV) : Prop :=
  w.ownsRow B 49 5 (.slice A (bs.length + 12) c) (bs.length + 12) (blkCells (bs ++ marksB 12)) ∧ (∀ b ∈ bs, LentR w B b.A b.c b.ins) ∧ bs.length ≤ 100000 ∧ ∀ b ∈ bs, b.t.ok
theorem LentB.below {w w' : World} {B : Nat} {A : Option Addr} {c : Nat} {bs : List BlkV} (h : LentB w B A c bs) (hb : Below w.heap.size w w') : LentB w' B A c bs := ⟨own_below h.1 hb, fun x hx => (h.2.1 x hx).below hb, h.2.2⟩
theorem lentR_down {w : World} {B B' : Nat} {A : Option Addr} {c : Nat} {xs : List InsV} (h : LentR w B A c xs) (hB : B' ≤ B) : LentR w B' A c xs := ⟨own_down h.1 hB, fun x hx => lentI_down (h.2.1 x hx) hB, h.2.2⟩
theorem lentR_other {w w' : World} {B B2 n2 s2 : Nat} {A : Option Addr} {c : Nat} {xs : List InsV} {v2 : Value} {ys : List Value} (h : LentR w B A c xs) (h2 : w.ownsRow B2 49 s2 v2 n2 ys) (hg : w.grownBy w' v2.ownBlock) : LentR w' B A c xs := ⟨own_other h.1 h2 (by decide) hg, fun x hx => lentI_other (h.2.1 x hx) h2 (by decide) hg, h.2.2⟩

/-- A row of one's own reads so. -/
theorem own_RBlk {w : World} {B n : Nat} {v : Value} {bs : List BlkV} (h : w.ownsRow B 49 5 v n (blkCells bs)) (hl : bs.length ≤ 35184372088832) (ha : ∀ b ∈ bs, RRow w b.A b.ins) (ht : ∀ b ∈ bs, b.t.ok) :
    ∃ A c, v = .slice A bs.length c ∧ bs.length ≤ c ∧ RBlk w A bs := by
  obtain ⟨h1, h2⟩ := h
  have hn : n = bs.length := by rw [blkCells_len] at h1; omega
  subst hn
  have hok : ∀ i, i < (blks bs).length → (gB (blks bs) i).t.ok := fun i hi => by
    rw [blks_len] at hi
    rw [gB_blks hi, gBV_eq hi]
    exact ht _ (List.getElem_mem hi)
  have hone : ∀ i, i < (blks bs).length → (gB (blks bs) i).ins.oneCell' = true := fun i hi => by
    rw [blks_len] at hi
    rw [gB_blks hi]; rfl
  have hrow : ∀ i, i < bs.length → RRow w (gBV bs i).A (gBV bs i).ins := fun i hi => by rw [gBV_eq hi]; exact ha _ (List.getElem_mem hi)
  rcases h2 with ⟨rfl, h0⟩ | ⟨g, cap, cur, rfl, hg, hh, hc, hcap, hsz, htake⟩
  · exact ⟨none, 0, by rw [h0], by omega, ⟨by rw [blks_len]; exact hl, hok, hone, fun q => by rw [blks_len] at q; omega⟩, hrow⟩
  · refine ⟨some ⟨g, 0, none⟩, cap, rfl, hc, ⟨by rw [blks_len]; exact hl, hok, hone, fun _ => ⟨g, 0, rfl, blk_lt hh, fun k hk => ?_⟩⟩, hrow⟩
    rw [blks_len] at hk
    have hk5 : k / 5 < bs.length := by omega
    have hj : k % 5 < 5 := by omega
    have e := blkCells_at hk5 hj
    rw [show k / 5 * 5 + k % 5 = k by omega] at e
    show w.cell? ⟨g, 0 + k, none⟩ = some ((gB (blks bs) (k / 5)).cell (k % 5))
    rw [gB_blks hk5, Nat.zero_add, cell_of_row w g k cur _ (0, 0) hh, ← e, ← htake]
    have : k < bs.length * 5 := by omega
    simp [this]
theorem tm_mark_ok (i : Nat) (h : i < 1000) : (⟨0, markN 1 i, 0, 0⟩ : Tm).ok := by
  unfold markN
  exact ⟨⟨by simp, by simp⟩, ⟨by simp only; omega, by simp only; omega⟩, ⟨by simp, by simp⟩, ⟨by simp, by simp⟩⟩
theorem LentB.all {w : World} {B : Nat} {A : Option Addr} {c : Nat} {bs : List BlkV} (h : LentB w B A c bs) : RBlk w A (bs ++ marksB 12) ∧ bs.length + 12 ≤ c := by
  have hl := h.2.2.1
  have hlen : (bs ++ marksB 12).length = bs.length + 12 := by rw [List.length_append, marksB_len]
  obtain ⟨A', c', e, hc, hr⟩ := own_RBlk h.1 (by omega) (fun x hx => by
    rcases List.mem_append.1 hx with q | q
    · exact (h.2.1 x q).rr
    · obtain ⟨i, _, rfl⟩ := List.mem_map.1 q
      exact RRow.nil _ _) (fun x hx => by
    rcases List.mem_append.1 hx with q | q
    · exact h.2.2.2 x q
    · obtain ⟨i, hi, rfl⟩ := List.mem_map.1 q
      have := List.mem_range.1 hi
      exact tm_mark_ok i (by omega))
  simp only [Value.slice.injEq] at e
  obtain ⟨rfl, _, rfl⟩ := e
  exact ⟨hr, by omega⟩
theorem gBV_append {xs ys : List BlkV} {i : Nat} (h : i < xs.length) : gBV (xs ++ ys) i = gBV xs i := by simp [gBV, List.getElem?_append_left h]
theorem RBlk.left {w : World} {A : Option Addr} {xs ys : List BlkV} (h : RBlk w A (xs ++ ys)) : RBlk w A xs := by
  have hl := h.rf.len
  rw [blks_len, List.length_append] at hl
  have hlt : ∀ {i}, i < (blks xs).length → i < (blks (xs ++ ys)).length := fun {i} hi => by rw [blks_len] at hi ⊢; rw [List.length_append]; omega
  have hgb : ∀ {i}, i < (blks xs).length → gB (blks (xs ++ ys)) i = gB (blks xs) i := fun {i} hi => by
    have h2 := hlt hi
    rw [blks_len] at hi h2
    rw [gB_blks hi, gB_blks h2, gBV_append hi]
  refine ⟨⟨by rw [blks_len]; omega, fun i hi => ?_, fun i hi => ?_, fun hm => ?_⟩, fun i hi => ?_⟩
  · rw [← hgb hi]; exact h.rf.ok i (hlt hi)
  · rw [← hgb hi]; exact h.rf.one i (hlt hi)
  · obtain ⟨b, off, e, hb, hc⟩ := h.rf.rd (by rw [blks_len] at hm ⊢; rw [List.length_append]; omega)
    refine ⟨b, off, e, hb, fun k hk => ?_⟩
    rw [blks_len] at hk
    have := hc k (by rw [blks_len, List.length_append]; omega)
    have e2 : gB (blks (xs ++ ys)) (k / 5) = gB (blks xs) (k / 5) := hgb (by rw [blks_len]; omega)
    have this : w.cell? ⟨b, off + k, none⟩ = some ((gB (blks (xs ++ ys)) (k / 5)).cell (k % 5)) := this
    rw [e2] at this
    exact this
  · have := h.rows i (by rw [List.length_append]; omega)
    rwa [gBV_append hi] at this
theorem LentB.rb {w : World} {B : Nat} {A : Option Addr} {c : Nat} {bs : List BlkV} (h : LentB w B A c bs) : RBlk w A bs := h.all.1.left

set_option maxRecDepth 100000 in
set_option maxHeartbeats 1000000 in
theorem LentBlock_any (x : BlkV) (w : World) (hr : RRow w x.A x.ins) (hl : SmallR 500 x.ins) :
    Calls Tryz.prog 79 #[.agg x.val] w fun e w' => ∃ y : BlkV, e = .returned (.agg y.val) ∧ y.ins.map (fun z : InsV => z.d) = x.ins.map (fun z : InsV => z.d) ∧ y.t = x.t ∧ LentR w' w.heap.size y.A y.c y.ins ∧ Below w.heap.size w w' := by
  obtain ⟨ins, A, c, t⟩ := x
  simp only [BlkV.val, BlkV.iv] at *
  have hb1 := (Below.refl w.heap.size w).alloc (Nat.le_refl _) (.cells #[.slice A ins.length c, .int .i64 t.k, .int .i64 t.a, .int .i64 t.t0, .int .i64 t.t1] 49)
  have hb2 := hb1.alloc (by simp) (.cells #[.slice none 0 0, .int .i64 0, .int .i64 0, .int .i64 0, .int .i64 0] 49)
  have n1 := blk_new w (.cells #[.slice A ins.length c, .int .i64 t.k, .int .i64 t.a, .int .i64 t.t0, .int .i64 t.t1] 49)
  have n1' := (blk_old (w.alloc (.cells #[.slice A ins.length c, .int .i64 t.k, .int .i64 t.a, .int .i64 t.t0, .int .i64 t.t1] 49)) (.cells #[.slice none 0 0, .int .i64 0, .int .i64 0, .int .i64 0, .int .i64 0] 49) (blk_lt n1)).trans n1
  have n2 := blk_new (w.alloc (.cells #[.slice A ins.length c, .int .i64 t.k, .int .i64 t.a, .int .i64 t.t0, .int .i64 t.t1] 49)) (.cells #[.slice none 0 0, .int .i64 0, .int .i64 0, .int .i64 0, .int .i64 0] 49)
  rw [World.size_alloc] at n2
  go_enter Tryz.func79, Tryz.ntmps79
  go_wp2_with fail
  refine (LentRow_any A c ins _ (hr.below hb2) hl).mono ?_
  rintro e W1 ⟨ys, A', c', rfl, hys, hL, hb3⟩
  have m1 := blk_below hb3 n1' (blk_lt n1')
  have m2 := blk_below hb3 n2 (blk_lt n2)
  have hB := hb2.trans (hb3.mono hb2.size)
  have hsz := hb2.size
  have hs2 : w.heap.size + 2 ≤ ((w.alloc (.cells #[.slice A ins.length c, .int .i64 t.k, .int .i64 t.a, .int .i64 t.t0, .int .i64 t.t1] 49)).alloc (.cells #[.slice none 0 0, .int .i64 0, .int .i64 0, .int .i64 0, .int .i64 0] 49)).heap.size := blk_lt n2
  generalize ((w.alloc (.cells #[.slice A ins.length c, .int .i64 t.k, .int .i64 t.a, .int .i64 t.t0, .int .i64 t.t1] 49)).alloc (.cells #[.slice none 0 0, .int .i64 0, .int .i64 0, .int .i64 0, .int .i64 0] 49)) = w2 at *
  have hys' := Lib.hid hys
  clear hys
  have c0 := (cell_of_row _ _ 0 _ _ _ m1).trans (show #[.slice A ins.length c, .int .i64 t.k, .int .i64 t.a, .int .i64 t.t0, .int .i64 t.t1][0]? = some (Value.slice A ins.length c) from rfl)
  have f0 := frozen_of_row _ _ 0 _ _ m1
  have s1 : (W1.setCell ⟨w.heap.size, 0, none⟩ (.slice A' ys.length c')).heap[w.heap.size]? = some (.cells #[.slice A' ys.length c', .int .i64 t.k, .int .i64 t.a, .int .i64 t.t0, .int .i64 t.t1] 49 (0, 0)) := blk_set m1
  have s2 := (blk_far (p := ⟨w.heap.size, 0, none⟩) (v := .slice A' ys.length c') (show w.heap.size + 1 ≠ w.heap.size by omega)).trans m2
  go_wp2_with (first
    | (refine wpList_load_row rfl _ _ rfl _ rfl _ _ _ _ s1 Tryz.underlying49 rfl (by kernel_rfl) ?_)
    | (refine wpList_store_row rfl _ _ _ rfl (w.heap.size + 1) #[.slice A' ys.length c', .int .i64 t.k, .int .i64 t.a, .int .i64 t.t0, .int .i64 t.t1] rfl rfl _ _ s2 (by kernel_rfl) rfl (by simp [int_one, slice_one]) ?_))
  have hBs : Below w.heap.size w (W1.setCell ⟨w.heap.size, 0, none⟩ (.slice A' ys.length c')) := hB.setCell (p := ⟨w.heap.size, 0, none⟩) (Nat.le_refl _) _
  have hBr := below_setRow hBs (g := w.heap.size + 1) (by omega) #[.slice A' ys.length c', .int .i64 t.k, .int .i64 t.a, .int .i64 t.t0, .int .i64 t.t1]
  have hkeep : ∀ k, w2.heap.size ≤ k → ((W1.setCell ⟨w.heap.size, 0, none⟩ (.slice A' ys.length c')).setRow (w.heap.size + 1) #[.slice A' ys.length c', .int .i64 t.k, .int .i64 t.a, .int .i64 t.t0, .int .i64 t.t1]).heap[k]? = W1.heap[k]? := fun k hk => by
    rw [blk_setRow_far (by omega), blk_far (p := ⟨w.heap.size, 0, none⟩) (by simp only; omega)]
  have hown : ∀ {e s v n xs}, W1.ownsRow w2.heap.size e s v n xs → ((W1.setCell ⟨w.heap.size, 0, none⟩ (.slice A' ys.length c')).setRow (w.heap.size + 1) #[.slice A' ys.length c', .int .i64 t.k, .int .i64 t.a, .int .i64 t.t0, .int .i64 t.t1]).ownsRow w.heap.size e s v n xs := fun {e s v n xs} h => by
    refine ⟨h.1, ?_⟩
    rcases h.2 with q | ⟨g, cap, cur, e1, hg, hb, hrest⟩
    · exact .inl q
    · exact .inr ⟨g, cap, cur, e1, Nat.le_trans hsz hg, (hkeep g hg).trans hb, hrest⟩
  exact bodyPost_ret (results_cell_row rfl _ _ _ _ _ _ _ rfl (blk_setRow s2) Tryz.underlying49 rfl (by kernel_rfl)) rfl ⟨⟨ys, A', c', t⟩, rfl, hys'.out, rfl, ⟨hown hL.1, fun y hy => ⟨hown (hL.2.1 y hy).1, (hL.2.1 y hy).2⟩, hL.2.2⟩, hBr⟩

set_option maxRecDepth 100000 in
set_option maxHeartbeats 4000000 in
theorem LentBlocks_any (A : Option Addr) (c : Nat) (xs : List BlkV) (w : World) (hr : RBlk w A xs) (hlen : xs.length ≤ 500) (hl : ∀ i, i < xs.length → SmallR 500 (gBV xs i).ins) :
    Calls Tryz.prog 48 #[.slice A xs.length c] w fun e w' => ∃ (ys : List BlkV) (A' : Option Addr) (c' : Nat), e = .returned (.slice A' ys.length c') ∧ ys.map BlkV.dat = xs.map BlkV.dat ∧ LentB w' w.heap.size A' c' ys ∧ Below w.heap.size w w' := by
  obtain ⟨i0, hi, hz0, hz1, hz2⟩ := info_parts infoBlock
  go_enter Tryz.func48, Tryz.ntmps48
  go_wp2_with (refine wpList_make_own _ rfl _ _ 23 rfl w.heap.size 49 i0 _ 5 Tryz.underlying23 hi hz0 hz1 _ _ _ (xs.length + 12) rfl rfl (by simp) (by rw [hz2]; omega) (by unfold maxLen; omega) (Nat.le_refl _) ?_; intro W1 hown1 hgr1)
  have hB1 : Below w.heap.size w W1 := (Below.refl _ _).grown hgr1 (Nat.le_refl _) (fun k e => by cases e)
  go_loopw [3, 4, 5] (fun v3 v4 _ W => ∃ (k : Nat) (ys : List BlkV), k ≤ xs.length ∧ v4 = .int .i64 k ∧ ys.length = k ∧ W.ownsRow w.heap.size 49 5 v3 k (blkCells ys) ∧ ys.map BlkV.dat = (xs.take k).map BlkV.dat ∧ (∀ y ∈ ys, LentR W w.heap.size y.A y.c y.ins) ∧ (∀ y ∈ ys, y.t.ok) ∧ Below w.heap.size w W) (fun _ v4 _ _ => xs.length - (intOf v4).toNat)
  case atStart => exact ⟨0, [], Nat.zero_le _, rfl, rfl, hown1, by simp, by simp, by simp, hB1⟩
  case round =>
    clear hB1 hown1 hgr1
    obtain ⟨k, ys, hk, rfl, hyl, hown, hys, hla, hto, hB⟩ := hrel
    by_cases hlt : k < xs.length
    · have hd : decide ((k : Int) < (xs.length : Int)) = true := decide_eq_true (by omega)
      have hrB := hr.below hB
      obtain ⟨b, off, rfl, hbl, hok, hcell⟩ := hrB.rf.at_ (k := k) (by rw [blks_len]; exact hlt)
      have hra := hrB.rows k hlt
      have hla500 := hl k hlt
      have hmt := map_take_succ BlkV.dat xs hlt
      rw [← gBV_eq hlt] at hmt
      rw [gB_blks hlt] at hok hcell
      generalize hX : gBV xs k = X at *
      rw [show off + 5 * k = off + k * 5 by omega] at hcell
      have q0 := hcell 0 (by decide)
      have q1 := hcell 1 (by decide)
      have q2 := hcell 2 (by decide)
      have q3 := hcell 3 (by decide)
      have q4 := hcell 4 (by decide)
      simp only [Blk.cell, BlkV.blk, Nat.add_zero] at q0 q1 q2 q3 q4
      have hcall := LentBlock_any X wr hra hla500
      have hmt' := Lib.hid hmt
      have hys' := Lib.hid hys
      clear hcell hmt hys
      go_wp2_with fail
      refine hcall.mono ?_
      rintro e W2 ⟨⟨yi, yA, yc, yt⟩, rfl, hyd, hyt, hyl2, hb2⟩
      simp only at hyt
      subst hyt
      simp only [BlkV.val, BlkV.iv]
      have hyd' := Lib.hid hyd
      clear hyd
      have n5 := blk_new W2 (.cells #[.slice yA yi.length yc, .int .i64 X.t.k, .int .i64 X.t.a, .int .i64 X.t.t0, .int .i64 X.t.t1] 49)
      have hb3 := (Below.refl W2.heap.size W2).alloc (Nat.le_refl _) (.cells #[.slice yA yi.length yc, .int .i64 X.t.k, .int .i64 X.t.a, .int .i64 X.t.t0, .int .i64 X.t.t1] 49)
      generalize hW3 : W2.alloc (.cells #[.slice yA yi.length yc, .int .i64 X.t.k, .int .i64 X.t.a, .int .i64 X.t.t0, .int .i64 X.t.t1] 49) = W3 at *
      have n6 := blk_new W3 (.cells #[.slice yA yi.length yc, .int .i64 X.t.k, .int .i64 X.t.a, .int .i64 X.t.t0, .int .i64 X.t.t1] 49)
      have hb4 := (Below.refl W3.heap.size W3).alloc (Nat.le_refl _) (.cells #[.slice yA yi.length yc, .int .i64 X.t.k, .int .i64 X.t.a, .int .i64 X.t.t0, .int .i64 X.t.t1] 49)
      have hb24 := hb2.trans ((hb3.trans (hb4.mono hb3.size)).mono hb2.size)
      have hown4 := own_below hown hb24
      have hla4 := fun y hy => (hla y hy).below hb24
      have hy4 := lentR_down (hyl2.below (hb3.trans (hb4.mono hb3.size))) hB.size
      have hB4 := hB.trans (hb24.mono hB.size)
      have hS4 := hB4.size
      clear hb24 hb4 hb3 hb2 hown hla hyl2 hB
      go_wp2_with (first
        | (refine wpList_load_row rfl _ _ rfl _ rfl _ _ _ _ n5 Tryz.underlying49 rfl (by kernel_rfl) ?_)
        | (refine wpList_appRow rfl _ _ 23 49 5 56 _ rfl Tryz.underlying23 infoBlock rfl (by decide) (by decide) w.heap.size _ rfl k (blkCells ys) hown4 (by omega) _ _ #[.slice yA yi.length yc, .int .i64 X.t.k, .int .i64 X.t.a, .int .i64 X.t.t0, .int .i64 X.t.t1] rfl n6 rfl (BlkV.val_one ⟨yi, yA, yc, X.t⟩) hS4 ?_; intro v9 W8 hown8 hg8))
      have hB8 := grown_up hown4 hB4 hg8 hS4
      have hla8 : ∀ y ∈ ys ++ [⟨yi, yA, yc, X.t⟩], LentR W8 w.heap.size y.A y.c y.ins := by
        intro y hy
        rcases List.mem_append.1 hy with q | q
        · exact lentR_other (hla4 y q) hown4 hg8
        · have : y = ⟨yi, yA, yc, X.t⟩ := by simpa using q
          subst this
          exact lentR_other hy4 hown4 hg8
      have hto8 : ∀ y ∈ ys ++ [(⟨yi, yA, yc, X.t⟩ : BlkV)], y.t.ok := by
        intro y hy
        rcases List.mem_append.1 hy with q | q
        · exact hto y q
        · have : y = ⟨yi, yA, yc, X.t⟩ := by simpa using q
          subst this
          exact hok
      have hown9 : W8.ownsRow w.heap.size 49 5 v9 (k + 1) (blkCells (ys ++ [⟨yi, yA, yc, X.t⟩])) := by
        rw [blkCells_snoc]; exact hown8
      have hyy : (ys ++ [(⟨yi, yA, yc, X.t⟩ : BlkV)]).map BlkV.dat = (xs.take (k + 1)).map BlkV.dat := by
        rw [hmt'.out, List.map_append, hys'.out]
        simp only [List.map_cons, List.map_nil, BlkV.dat]
        rw [hyd'.out]
      have hyy' := Lib.hid hyy
      clear hyy hown8
      go_roundw
      case rel => exact ⟨k + 1, ys ++ [⟨yi, yA, yc, X.t⟩], by omega, by go_num, by simp [hyl], hown9, hyy'.out, hla8, hto8, hB8⟩
      case measure => simp [intOf]; omega
    · obtain rfl : k = xs.length := by omega
      have hd : decide ((xs.length : Int) < (xs.length : Int)) = false := by simp
      rw [List.take_length] at hys
      have hys' := Lib.hid hys
      have hyl' := Lib.hid hyl
      clear hys hyl
      go_wp2
      go_loopw [3, 6] (fun v3 v6 W => ∃ m : Nat, m ≤ 12 ∧ v6 = .int .i64 m ∧ W.ownsRow w.heap.size 49 5 v3 (xs.length + m) (blkCells (ys ++ marksB m)) ∧ (∀ y ∈ ys, LentR W w.heap.size y.A y.c y.ins) ∧ Below w.heap.size w W) (fun _ v6 _ => 12 - (intOf v6).toNat)
      case atStart => exact ⟨0, by omega, rfl, by simpa [marksB] using hown, hla, hB⟩
      case round =>
        clear hB hown hla
        obtain ⟨m, hm, rfl, hown, hla, hB⟩ := hrel
        by_cases hlt : m < 12
        · have hd : decide ((m : Int) < 12) = true := decide_eq_true (by omega)
          go_wp2_with fail
          refine (markBlock_any m _ (by omega)).mono ?_
          rintro e W1 ⟨rfl, hb1⟩
          simp only [markB, BlkV.val, BlkV.iv, List.length_nil]
          have n6 := blk_new W1 (.cells #[.slice none 0 0, .int .i64 0, .int .i64 (markN 1 m), .int .i64 0, .int .i64 0] 49)
          have hb4 := hb1.trans (((Below.refl W1.heap.size W1).alloc (Nat.le_refl _) (.cells #[.slice none 0 0, .int .i64 0, .int .i64 (markN 1 m), .int .i64 0, .int .i64 0] 49)).mono hb1.size)
          have hown4 := own_below hown hb4
          have hla4 := fun y hy => (hla y hy).below hb4
          have hB4 := hB.trans (hb4.mono hB.size)
          have hS4 := hB4.size
          clear hb4 hb1 hown hla hB
          go_wp2_with (refine wpList_appRow rfl _ _ 23 49 5 56 _ rfl Tryz.underlying23 infoBlock rfl (by decide) (by decide) w.heap.size _ rfl (xs.length + m) (blkCells (ys ++ marksB m)) hown4 (by omega) _ _ #[.slice none 0 0, .int .i64 0, .int .i64 (markN 1 m), .int .i64 0, .int .i64 0] rfl n6 rfl (BlkV.val_one (markB m)) hS4 ?_; intro v9 W8 hown8 hg8)
          have hB8 := grown_up hown4 hB4 hg8 hS4
          have hla8 := fun y hy => lentR_other (hla4 y hy) hown4 hg8
          have hown9 : W8.ownsRow w.heap.size 49 5 v9 (xs.length + (m + 1)) (blkCells (ys ++ marksB (m + 1))) := by
            rw [marksB_succ, ← List.append_assoc, blkCells_snoc]; exact hown8
          clear hown8
          go_roundw
          case rel => exact ⟨m + 1, by omega, by go_num, hown9, hla8, hB8⟩
          case measure => simp [intOf]; omega
        · obtain rfl : m = 12 := by omega
          have hd : decide (((12 : Nat) : Int) < 12) = false := by decide
          obtain ⟨g, cap, cur, rfl, hg, hb, hnc, hcm, hcs, htk⟩ := own_some hown (by omega)
          have hle : (xs.length : Int) ≤ (cap : Int) := by omega
          go_wp2
          go_ret
          exact ⟨ys, some ⟨g, 0, none⟩, cap, by rw [hyl'.out]; rfl, hys'.out, ⟨by rw [hyl'.out]; exact hown, hla, by rw [hyl'.out]; omega, hto⟩, hB⟩

/-- A function that is lent. -/
structure LentF (w : World) (B : Nat) (F : FnV) : Prop where
  par : LentI w B F.Ap F.cp F.par
  blk : LentB w B F.A F.c F.bs
theorem LentF.below {w w' : World} {B : Nat} {F : FnV} (h : LentF w B F) (hb : Below w.heap.size w w') : LentF w' B F := ⟨h.par.below hb, h.blk.below hb⟩
theorem LentF.fn {w : World} {B : Nat} {F : FnV} (h : LentF w B F) : RFn w F := ⟨h.par.ri, h.blk.rb⟩
theorem own_move {w w' : World} {B B' : Nat} (hB : B' ≤ B) (hk : ∀ k, B ≤ k → w'.heap[k]? = w.heap[k]?) {e : TypeId} {s n : Nat} {v : Value} {xs : List Value} (h : w.ownsRow B e s v n xs) : w'.ownsRow B' e s v n xs := by
  refine ⟨h.1, ?_⟩
  rcases h.2 with q | ⟨g, cap, cur, e1, hg, hb, hrest⟩
  · exact .inl q
  · exact .inr ⟨g, cap, cur, e1, Nat.le_trans hB hg, (hk g hg).trans hb, hrest⟩
theorem LentI.move {w w' : World} {B B' : Nat} (hB : B' ≤ B) (hk : ∀ k, B ≤ k → w'.heap[k]? = w.heap[k]?) {A : Option Addr} {c : Nat} {xs : List Int} (h : LentI w B A c xs) : LentI w' B' A c xs := ⟨own_move hB hk h.1, h.2⟩
theorem LentR.move {w w' : World} {B B' : Nat} (hB : B' ≤ B) (hk : ∀ k, B ≤ k → w'.heap[k]? = w.heap[k]?) {A : Option Addr} {c : Nat} {xs : List InsV} (h : LentR w B A c xs) : LentR w' B' A c xs := ⟨own_move hB hk h.1, fun x hx => (h.2.1 x hx).move hB hk, h.2.2⟩
theorem LentB.move {w w' : World} {B B' : Nat} (hB : B' ≤ B) (hk : ∀ k, B ≤ k → w'.heap[k]? = w.heap[k]?) {A : Option Addr} {c : Nat} {xs : List BlkV} (h : LentB w B A c xs) : LentB w' B' A c xs := ⟨own_move hB hk h.1, fun x hx => (h.2.1 x hx).move hB hk, h.2.2⟩

set_option maxRecDepth 100000 in
set_option maxHeartbeats 1000000 in
theorem LentFunc_any (F : FnV) (w : World) (hr : RFn w F) (hs : SmallF 500 F) :
    Calls Tryz.prog 9 #[F.val] w fun e w' => ∃ G : FnV, e = .returned G.val ∧ G.dat = F.dat ∧ LentF w' w.heap.size G ∧ Below w.heap.size w w' := by
  obtain ⟨par, Ap, cp, bs, A, c⟩ := F
  simp only [FnV.val, FnV.pv] at *
  have hb1 := (Below.refl w.heap.size w).alloc (Nat.le_refl _) (.cells #[.slice Ap par.length cp, .slice A bs.length c] 25)
  have hb2 := hb1.alloc (by simp) (.cells #[.slice none 0 0, .slice none 0 0] 25)
  have n1 := blk_new w (.cells #[.slice Ap par.length cp, .slice A bs.length c] 25)
  have n1' := (blk_old (w.alloc (.cells #[.slice Ap par.length cp, .slice A bs.length c] 25)) (.cells #[.slice none 0 0, .slice none 0 0] 25) (blk_lt n1)).trans n1
  have n2 := blk_new (w.alloc (.cells #[.slice Ap par.length cp, .slice A bs.length c] 25)) (.cells #[.slice none 0 0, .slice none 0 0] 25)
  rw [World.size_alloc] at n2
  go_enter Tryz.func9, Tryz.ntmps9
  go_wp2_with fail
  refine (LentInts_any Ap cp par _ (hr.par.below hb2) hs.par).mono ?_
  rintro e W1 ⟨Ap', cp', rfl, hL, hb3⟩
  have m1 := blk_below hb3 n1' (blk_lt n1')
  have m2 := blk_below hb3 n2 (blk_lt n2)
  have hB := hb2.trans (hb3.mono hb2.size)
  have hsz := hb2.size
  have hs2 : w.heap.size + 2 ≤ ((w.alloc (.cells #[.slice Ap par.length cp, .slice A bs.length c] 25)).alloc (.cells #[.slice none 0 0, .slice none 0 0] 25)).heap.size := blk_lt n2
  generalize ((w.alloc (.cells #[.slice Ap par.length cp, .slice A bs.length c] 25)).alloc (.cells #[.slice none 0 0, .slice none 0 0] 25)) = w2 at *
  have c0 := (cell_of_row _ _ 0 _ _ _ m1).trans (show #[.slice Ap par.length cp, .slice A bs.length c][0]? = some (Value.slice Ap par.length cp) from rfl)
  have f0 := frozen_of_row _ _ 0 _ _ m1
  have s1 : (W1.setCell ⟨w.heap.size, 0, none⟩ (.slice Ap' par.length cp')).heap[w.heap.size]? = some (.cells #[.slice Ap' par.length cp', .slice A bs.length c] 25 (0, 0)) := blk_set m1
  have s2 := (blk_far (p := ⟨w.heap.size, 0, none⟩) (v := .slice Ap' par.length cp') (show w.heap.size + 1 ≠ w.heap.size by omega)).trans m2
  have hBs : Below w.heap.size w (W1.setCell ⟨w.heap.size, 0, none⟩ (.slice Ap' par.length cp')) := hB.setCell (p := ⟨w.heap.size, 0, none⟩) (Nat.le_refl _) _
  have hk1 : ∀ k, w2.heap.size ≤ k → (W1.setCell ⟨w.heap.size, 0, none⟩ (.slice Ap' par.length cp')).heap[k]? = W1.heap[k]? := fun k hk => blk_far (p := ⟨w.heap.size, 0, none⟩) (by simp only; omega)
  have hL2 := hL.move (Nat.le_refl _) hk1
  have c1 := (cell_of_row _ _ 1 _ _ _ s1).trans (show #[.slice Ap' par.length cp', .slice A bs.length c][1]? = some (Value.slice A bs.length c) from rfl)
  have hsz1 : w2.heap.size ≤ (W1.setCell ⟨w.heap.size, 0, none⟩ (.slice Ap' par.length cp')).heap.size := by
    have := hb3.size
    simpa [World.setCell] using this
  have hbs0 := (hr.blk.below hBs)
  clear hb3 hL hk1 m1 m2 hB
  go_wp2_with fail
  refine (LentBlocks_any A c bs _ hbs0 hs.bs hs.row).mono ?_
  rintro e W3 ⟨ys, A', c', rfl, hys, hLB, hb4⟩
  have hys' := Lib.hid hys
  clear hys
  generalize hW2 : (W1.setCell ⟨w.heap.size, 0, none⟩ (.slice Ap' par.length cp')) = W2 at *
  have m1 := blk_below hb4 s1 (blk_lt s1)
  have m2 := blk_below hb4 s2 (blk_lt s2)
  have hB := hBs.trans (hb4.mono hBs.size)
  have hLI := hL2.below hb4
  have d0 := (cell_of_row _ _ 1 _ _ _ m1).trans (show #[.slice Ap' par.length cp', .slice A bs.length c][1]? = some (Value.slice A bs.length c) from rfl)
  have g0 := frozen_of_row _ _ 1 _ _ m1
  have t1 : (W3.setCell ⟨w.heap.size, 1, none⟩ (.slice A' ys.length c')).heap[w.heap.size]? = some (.cells #[.slice Ap' par.length cp', .slice A' ys.length c'] 25 (0, 0)) := blk_set m1
  have t2 := (blk_far (p := ⟨w.heap.size, 1, none⟩) (v := .slice A' ys.length c') (show w.heap.size + 1 ≠ w.heap.size by omega)).trans m2
  clear c1 c0 f0 hL2 s1 s2
  go_wp2_with (first
    | (refine wpList_load_row rfl _ _ rfl _ rfl _ _ _ _ t1 Tryz.underlying25 rfl (by kernel_rfl) ?_)
    | (refine wpList_store_row rfl _ _ _ rfl (w.heap.size + 1) #[.slice Ap' par.length cp', .slice A' ys.length c'] rfl rfl _ _ t2 (by kernel_rfl) rfl (by simp [slice_one]) ?_))
  have hBs2 : Below w.heap.size w (W3.setCell ⟨w.heap.size, 1, none⟩ (.slice A' ys.length c')) := hB.setCell (p := ⟨w.heap.size, 1, none⟩) (Nat.le_refl _) _
  have hBr := below_setRow hBs2 (g := w.heap.size + 1) (by omega) #[.slice Ap' par.length cp', .slice A' ys.length c']
  have hkk : ∀ k, w2.heap.size ≤ k → ((W3.setCell ⟨w.heap.size, 1, none⟩ (.slice A' ys.length c')).setRow (w.heap.size + 1) #[.slice Ap' par.length cp', .slice A' ys.length c']).heap[k]? = W3.heap[k]? := fun k hk => by
    rw [blk_setRow_far (by omega), blk_far (p := ⟨w.heap.size, 1, none⟩) (by simp only; omega)]
  exact bodyPost_ret (results_cell_row rfl _ _ _ _ _ _ _ rfl (blk_setRow t2) Tryz.underlying25 rfl (by kernel_rfl)) rfl ⟨⟨par, Ap', cp', ys, A', c'⟩, rfl, by simp only [FnV.dat, hys'.out], ⟨hLI.move hsz hkk, hLB.move (by omega) (fun k hk => hkk k (Nat.le_trans hsz1 hk))⟩, hBr⟩

end Go.Proofs.YtjichaeegheacaaGreatDoor

/- Kept -/
/-
  intarsiakit: what was lent is as it was: the compares, where both sides are the same.
-/
namespace Go.Proofs.YtjichaeegheacaaGreatDoor
open Go Go.RowKit

theorem gI_marks {xs : List Int} {q : Nat} (h : q < 12) : gI (xs ++ marks 12) (xs.length + q) = markN 1 q := by
  unfold gI marks
  rw [List.getElem?_append_right (by omega)]
  simp [h]

set_option maxRecDepth 100000 in
set_option maxHeartbeats 2000000 in
theorem KeptInts_any (A A2 : Option Addr) (c c2 : Nat) (xs : List Int) (w : World) (B : Nat) (hL : LentI w B A c xs) (hr : RI w A2 xs) :
    Calls Tryz.prog 28 #[.slice A xs.length c, .slice A2 xs.length c2] w (Fresh w (.bool true)) := by
  obtain ⟨hall, hcap⟩ := hL.all
  have hl := hL.2.2
  have hlen : (xs ++ marks 12).length = xs.length + 12 := by rw [List.length_append, marks_len]
  obtain ⟨b, off, rfl, hb, _⟩ := hall.rd (by omega)
  have hc0 : (xs.length : Int) + 12 ≤ (c : Int) := by omega
  have hn0 : ((xs.length : Int) != (xs.length : Int)) = false := by simp
  go_enter Tryz.func28, Tryz.ntmps28
  go_wp2
  go_loopw [6] (fun v6 W => ∃ k : Nat, k ≤ xs.length + 12 ∧ v6 = .int .i64 k ∧ Below w.heap.size w W) (fun v6 _ => xs.length + 12 - (intOf v6).toNat)
  case atStart => exact ⟨0, by omega, rfl, Below.refl _ _⟩
  case round =>
    obtain ⟨k, hk, rfl, hB⟩ := hrel
    by_cases hlt : k < xs.length + 12
    · have hd : decide ((k : Int) < (xs.length : Int) + 12) = true := decide_eq_true (by omega)
      have hallB := hall.below hB
      obtain ⟨b', off', e', hbl, hcell, hxi⟩ := hallB.at_ (k := k) (by omega)
      cases e'
      have hk2 : (k : Int) < (xs.length : Int) + 12 := by omega
      have hk4 : (0 : Int) ≤ (k : Int) := by omega
      by_cases hin : k < xs.length
      · have hd2 : decide ((k : Int) < (xs.length : Int)) = true := decide_eq_true (by omega)
        have hd3 : decide ((k : Int) ≥ (xs.length : Int)) = false := decide_eq_false (by omega)
        have hk3 : (k : Int) < (xs.length : Int) := by omega
        have hd4 : decide (xs.length ≤ k) = false := decide_eq_false (by omega)
        obtain ⟨b2, off2, rfl, hbl2, hcell2, hxi2⟩ := (hr.below hB).at_ hin
        rw [gI_append_left hin] at hcell
        have he : (gI xs k == gI xs k) = true := by simp
        go_wp2
        go_quiet (fail)
        go_wp2
        go_roundw
        case rel => exact ⟨k + 1, by omega, by go_num, hB.trans (drewN_below _ _ _)⟩
        case measure => simp [intOf]; omega
      · have hd2 : decide ((k : Int) < (xs.length : Int)) = false := decide_eq_false (by omega)
        have hd3 : decide ((k : Int) ≥ (xs.length : Int)) = true := decide_eq_true (by omega)
        obtain ⟨q, hq⟩ : ∃ q, k = xs.length + q := ⟨k - xs.length, by omega⟩
        have hgm := gI_marks (xs := xs) (q := q) (by omega)
        rw [← hq] at hgm
        rw [hgm] at hcell
        have hwr : IntKind.i64.wrap ((k : Int) - (xs.length : Int)) = (q : Int) := by rw [IntKind.wrap_i64]; omega
        have hq12 : q < 12 := by omega
        have hq' := Lib.hid hq
        clear hq hgm hxi
        have hd4 : decide (xs.length ≤ k) = true := decide_eq_true (by omega)
        have hcW : ∀ W, Below wr.heap.size wr W → W.cell? ⟨b, off + k, none⟩ = some (.int .i64 (markN 1 q)) := fun W hW => (hW.cell (p := ⟨b, off + k, none⟩) hbl).trans hcell
        have hmk : ∀ W, Below wr.heap.size wr W → Calls Tryz.prog 49 #[.int .i64 1, .int .i64 q] W (Fresh W (.int .i64 (markN 1 q))) := fun W _ => (mark_any 1 q W (by omega) (by omega) (by omega) (by omega)).mono fun _ _ h => ⟨h.1, by rw [h.2]; exact Below.refl _ _⟩
        clear hcell hk
        go_wp2
        change Code.wp _ _ _ (Act.mk _ _) _
        refine wp_region_quiet_below (by kernel_rfl) (by kernel_rfl) ?_
        repeat (first
          | go_big_quiet_skip
          | (go_big_quiet_want; first
              | (go_big_quiet_op; go_big_quiet_on)
              | ((first
                  | refine q_go ⟨_, ⟨0, #[]⟩, rfl⟩ (fun K' hk => q_load1 _ _ rfl ⟨b, off + k, none⟩ rfl _ Tryz.underlying3 _ (fun W hW => hcW W (below_of_grow hW)) hk) ?_
                  | refine q_go ⟨_, ⟨0, #[]⟩, rfl⟩ (fun K' hk => q_call2 49 _ _ _ rfl (.int .i64 1) rfl (.int .i64 q) rfl (by kernel_rfl) _ (fresh_grow hmk) hk) ?_); go_big_quiet_op; go_big_quiet_on)))
        refine wpQuiet_nil ?_
        intro W7 hW7'
        have hB7 := hB.trans ((below_of_grow hW7').mono hB.size)
        clear hW7'
        go_wp2
        go_roundw
        case rel => exact ⟨k + 1, by have := hq'.out; omega, by go_num, hB7⟩
        case measure => simp [intOf]; omega
    · obtain rfl : k = xs.length + 12 := by omega
      have hd : decide ((xs.length : Int) + 12 < (xs.length : Int) + 12) = false := by simp
      go_wp2
      go_ret
      exact ⟨rfl, hB⟩

end Go.Proofs.YtjichaeegheacaaGreatDoor

/- KeptR -/
/-
  intarsiakit: instructions, blocks, functions that are as they were.
-/
namespace Go.Proofs.YtjichaeegheacaaGreatDoor
open Go Go.RowKit

set_option maxRecDepth 100000 in
set_option maxHeartbeats 2000000 in
theorem SameIns_any (x y : InsV) (he : y.d = x.d) (w : World) (hx : RI w x.A x.d.args) (hy : RI w y.A y.d.args) :
    Calls Tryz.prog 120 #[.agg x.val, .agg y.val] w (Fresh w (.bool true)) := by
  obtain ⟨d, A, c⟩ := x
  obtain ⟨d2, A2, c2⟩ := y
  simp only at he
  subst he
  simp only [InsV.val, InsV.av] at *
  have hb1 := (Below.refl w.heap.size w).alloc (Nat.le_refl _) (.cells #[.int .i64 d2.op, .int .i64 d2.dst, .int .i64 d2.a, .int .i64 d2.b, .int .i64 d2.imm, .int .i64 d2.callee, .slice A d2.args.length c, .int .i64 d2.many] 110)
  have hb2 := hb1.alloc (by simp) (.cells #[.int .i64 d2.op, .int .i64 d2.dst, .int .i64 d2.a, .int .i64 d2.b, .int .i64 d2.imm, .int .i64 d2.callee, .slice A2 d2.args.length c2, .int .i64 d2.many] 110)
  have n1 := blk_new w (.cells #[.int .i64 d2.op, .int .i64 d2.dst, .int .i64 d2.a, .int .i64 d2.b, .int .i64 d2.imm, .int .i64 d2.callee, .slice A d2.args.length c, .int .i64 d2.many] 110)
  have n1' := (blk_old (w.alloc (.cells #[.int .i64 d2.op, .int .i64 d2.dst, .int .i64 d2.a, .int .i64 d2.b, .int .i64 d2.imm, .int .i64 d2.callee, .slice A d2.args.length c, .int .i64 d2.many] 110)) (.cells #[.int .i64 d2.op, .int .i64 d2.dst, .int .i64 d2.a, .int .i64 d2.b, .int .i64 d2.imm, .int .i64 d2.callee, .slice A2 d2.args.length c2, .int .i64 d2.many] 110) (blk_lt n1)).trans n1
  have n2 := blk_new (w.alloc (.cells #[.int .i64 d2.op, .int .i64 d2.dst, .int .i64 d2.a, .int .i64 d2.b, .int .i64 d2.imm, .int .i64 d2.callee, .slice A d2.args.length c, .int .i64 d2.many] 110)) (.cells #[.int .i64 d2.op, .int .i64 d2.dst, .int .i64 d2.a, .int .i64 d2.b, .int .i64 d2.imm, .int .i64 d2.callee, .slice A2 d2.args.length c2, .int .i64 d2.many] 110)
  rw [World.size_alloc] at n2
  go_enter Tryz.func120, Tryz.ntmps120
  go_wp2_with fail
  refine (SameInts_any A A2 c c2 d2.args d2.args _ (hx.below hb2) (hy.below hb2)).mono ?_
  rintro e W1 ⟨rfl, hb3⟩
  have hd : decide (d2.args = d2.args) = true := by simp
  have m1 := blk_below hb3 n1' (blk_lt n1')
  have m2 := blk_below hb3 n2 (blk_lt n2)
  have c7 := (cell_of_row _ _ 7 _ _ _ m1).trans (show #[Value.int .i64 d2.op, .int .i64 d2.dst, .int .i64 d2.a, .int .i64 d2.b, .int .i64 d2.imm, .int .i64 d2.callee, .slice A d2.args.length c, .int .i64 d2.many][7]? = some (Value.int .i64 d2.many) from rfl)
  have e7 := (cell_of_row _ _ 7 _ _ _ m2).trans (show #[Value.int .i64 d2.op, .int .i64 d2.dst, .int .i64 d2.a, .int .i64 d2.b, .int .i64 d2.imm, .int .i64 d2.callee, .slice A2 d2.args.length c2, .int .i64 d2.many][7]? = some (Value.int .i64 d2.many) from rfl)
  have hB := hb2.trans (hb3.mono hb2.size)
  clear m1 m2 n1 n1' n2 hb1 hb2 hb3
  rw [hd]
  clear hd
  go_wp2
  go_ret
  exact ⟨rfl, hB⟩

set_option maxRecDepth 100000 in
set_option maxHeartbeats 2000000 in
theorem KeptIns_any (x y : InsV) (he : y.d = x.d) (w : World) (B : Nat) (hx : LentI w B x.A x.c x.d.args) (hy : RI w y.A y.d.args) :
    Calls Tryz.prog 139 #[.agg x.val, .agg y.val] w (Fresh w (.bool true)) := by
  have hsame := fun W hW => SameIns_any x y he W (hx.ri.below hW) (hy.below hW)
  obtain ⟨d, A, c⟩ := x
  obtain ⟨d2, A2, c2⟩ := y
  simp only at he
  subst he
  simp only [InsV.val, InsV.av] at *
  have hb1 := (Below.refl w.heap.size w).alloc (Nat.le_refl _) (.cells #[.int .i64 d2.op, .int .i64 d2.dst, .int .i64 d2.a, .int .i64 d2.b, .int .i64 d2.imm, .int .i64 d2.callee, .slice A d2.args.length c, .int .i64 d2.many] 110)
  have hb2 := hb1.alloc (by simp) (.cells #[.int .i64 d2.op, .int .i64 d2.dst, .int .i64 d2.a, .int .i64 d2.b, .int .i64 d2.imm, .int .i64 d2.callee, .slice A2 d2.args.length c2, .int .i64 d2.many] 110)
  have n1 := blk_new w (.cells #[.int .i64 d2.op, .int .i64 d2.dst, .int .i64 d2.a, .int .i64 d2.b, .int .i64 d2.imm, .int .i64 d2.callee, .slice A d2.args.length c, .int .i64 d2.many] 110)
  have n1' := (blk_old (w.alloc (.cells #[.int .i64 d2.op, .int .i64 d2.dst, .int .i64 d2.a, .int .i64 d2.b, .int .i64 d2.imm, .int .i64 d2.callee, .slice A d2.args.length c, .int .i64 d2.many] 110)) (.cells #[.int .i64 d2.op, .int .i64 d2.dst, .int .i64 d2.a, .int .i64 d2.b, .int .i64 d2.imm, .int .i64 d2.callee, .slice A2 d2.args.length c2, .int .i64 d2.many] 110) (blk_lt n1)).trans n1
  have n2 := blk_new (w.alloc (.cells #[.int .i64 d2.op, .int .i64 d2.dst, .int .i64 d2.a, .int .i64 d2.b, .int .i64 d2.imm, .int .i64 d2.callee, .slice A d2.args.length c, .int .i64 d2.many] 110)) (.cells #[.int .i64 d2.op, .int .i64 d2.dst, .int .i64 d2.a, .int .i64 d2.b, .int .i64 d2.imm, .int .i64 d2.callee, .slice A2 d2.args.length c2, .int .i64 d2.many] 110)
  rw [World.size_alloc] at n2
  go_enter Tryz.func139, Tryz.ntmps139
  go_wp2_with (first
    | (refine wpList_load_row rfl _ _ rfl _ rfl _ _ _ _ n1' Tryz.underlying110 rfl (by kernel_rfl) ?_)
    | (refine wpList_load_row rfl _ _ rfl _ rfl _ _ _ _ n2 Tryz.underlying110 rfl (by kernel_rfl) ?_))
  refine (hsame _ hb2).mono ?_
  rintro e W1 ⟨rfl, hb3⟩
  have m1 := blk_below hb3 n1' (blk_lt n1')
  have m2 := blk_below hb3 n2 (blk_lt n2)
  have c6 := (cell_of_row _ _ 6 _ _ _ m1).trans (show #[.int .i64 d2.op, .int .i64 d2.dst, .int .i64 d2.a, .int .i64 d2.b, .int .i64 d2.imm, .int .i64 d2.callee, .slice A d2.args.length c, .int .i64 d2.many][6]? = some (Value.slice A d2.args.length c) from rfl)
  have e6 := (cell_of_row _ _ 6 _ _ _ m2).trans (show #[.int .i64 d2.op, .int .i64 d2.dst, .int .i64 d2.a, .int .i64 d2.b, .int .i64 d2.imm, .int .i64 d2.callee, .slice A2 d2.args.length c2, .int .i64 d2.many][6]? = some (Value.slice A2 d2.args.length c2) from rfl)
  have hB := hb2.trans (hb3.mono hb2.size)
  clear m1 m2 n1 n1' n2 hb1 hb2 hb3 hsame
  go_wp2_with fail
  refine (KeptInts_any A A2 c c2 d2.args _ B (hx.below hB) (hy.below hB)).mono ?_
  rintro e W2 ⟨rfl, hb4⟩
  go_wp2
  go_ret
  exact ⟨rfl, hB.trans (hb4.mono hB.size)⟩

theorem ins_range {W : World} {b f : Nat} {X : InsV} (h : ∀ j, j < 8 → W.cell? ⟨b, f + j, none⟩ = some (X.cell j)) : W.rangeAt b f X.val.toList := by
  intro j v hv
  have hj : j < 8 := (List.getElem?_eq_some_iff.1 hv).1
  rw [InsV.val_at X hj] at hv
  cases hv
  exact h j hj
theorem map_d_len {xs ys : List InsV} (h : ys.map (fun z : InsV => z.d) = xs.map (fun z : InsV => z.d)) : ys.length = xs.length := by
  have := congrArg List.length h
  simpa using this
theorem map_d_at {xs ys : List InsV} (h : ys.map (fun z : InsV => z.d) = xs.map (fun z : InsV => z.d)) {i : Nat} (hi : i < xs.length) : (gV ys i).d = (gV xs i).d := by
  have hl := map_d_len h
  have h2 := congrArg (fun l => l[i]?) h
  simp only [List.getElem?_map, List.getElem?_eq_getElem hi, List.getElem?_eq_getElem (show i < ys.length by omega), Option.map_some, Option.some.injEq] at h2
  rw [gV_eq hi, gV_eq (by omega)]
  exact h2

set_option maxRecDepth 100000 in
set_option maxHeartbeats 2000000 in
theorem SameRow_any (A A2 : Option Addr) (c c2 : Nat) (xs ys : List InsV) (he : ys.map (fun z : InsV => z.d) = xs.map (fun z : InsV => z.d)) (w : World) (hx : RRow w A xs) (hy : RRow w A2 ys) :
    Calls Tryz.prog 116 #[.slice A xs.length c, .slice A2 ys.length c2] w (Fresh w (.bool true)) := by
  have hl := map_d_len he
  have hlx := hx.len
  have hd := fun {i : Nat} (hi : i < xs.length) => map_d_at he hi
  rw [hl]
  have hn0 : ((xs.length : Int) != (xs.length : Int)) = false := by simp
  have hl' := Lib.hid hl
  clear hl he
  go_enter Tryz.func116, Tryz.ntmps116
  go_wp2
  go_loopw [5] (fun v5 W => ∃ k : Nat, k ≤ xs.length ∧ v5 = .int .i64 k ∧ Below w.heap.size w W) (fun v5 _ => xs.length - (intOf v5).toNat)
  case atStart => exact ⟨0, by omega, rfl, Below.refl _ _⟩
  case round =>
    obtain ⟨k, hk, rfl, hB⟩ := hrel
    by_cases hlt : k < xs.length
    · have hd1 : decide ((k : Int) < (xs.length : Int)) = true := decide_eq_true (by omega)
      have hk2 : (k : Int) < (xs.length : Int) := by omega
      have hk3 : (k : Int) < (ys.length : Int) := by have := hl'.out; omega
      have hk4 : (0 : Int) ≤ (k : Int) := by omega
      have hxB := hx.below hB
      have hyB := hy.below hB
      obtain ⟨b, off, rfl, hbl, hc1⟩ := hxB.rd k hlt
      obtain ⟨b2, off2, rfl, hbl2, hc2⟩ := hyB.rd k (by have := hl'.out; omega)
      have ha1 := hxB.args k hlt
      have ha2 := hyB.args k (by have := hl'.out; omega)
      have hdk := hd hlt
      generalize gV xs k = X at *
      generalize gV ys k = Y at *
      have hsame : ∀ W, Below wr.heap.size wr W → Calls Tryz.prog 120 #[.agg X.val, .agg Y.val] W (Fresh W (.bool true)) := fun W hW => SameIns_any X Y hdk W (ha1.below hW) (ha2.below hW)
      go_wp2
      change Code.wp _ _ _ (Act.mk _ _) _
      refine wp_region_quiet_below (by kernel_rfl) (by kernel_rfl) ?_
      repeat (first
        | go_big_quiet_skip
        | (go_big_quiet_want; first
            | (go_big_quiet_op; go_big_quiet_on)
            | ((first
                | refine q_go ⟨_, ⟨0, #[]⟩, rfl⟩ (fun K' hk => q_loadM _ _ rfl b (off + k * 8) rfl X.val.toList _ (fun W hW => ins_range (hc1 W (below_of_grow hW))) Tryz.underlying110 rfl (by kernel_rfl) hk) ?_
                | refine q_go ⟨_, ⟨0, #[]⟩, rfl⟩ (fun K' hk => q_loadM _ _ rfl b2 (off2 + k * 8) rfl Y.val.toList _ (fun W hW => ins_range (hc2 W (below_of_grow hW))) Tryz.underlying110 rfl (by kernel_rfl) hk) ?_
                | refine q_go ⟨_, ⟨0, #[]⟩, rfl⟩ (fun K' hk => q_call2 120 _ _ _ rfl (.agg X.val) rfl (.agg Y.val) rfl (by kernel_rfl) _ (fresh_grow hsame) hk) ?_); go_big_quiet_op; go_big_quiet_on)))
      refine wpQuiet_nil ?_
      intro W7 hW7'
      have hB7 := hB.trans ((below_of_grow hW7').mono hB.size)
      clear hW7' hc1 hc2 hsame
      go_wp2
      go_roundw
      case rel => exact ⟨k + 1, by omega, by go_num, hB7⟩
      case measure => simp [intOf]; omega
    · obtain rfl : k = xs.length := by omega
      have hd1 : decide ((xs.length : Int) < (xs.length : Int)) = false := by simp
      go_wp2
      go_ret
      exact ⟨rfl, hB⟩

theorem gV_marks {xs : List InsV} {q : Nat} (h : q < 12) : gV (xs ++ marksV 12) (xs.length + q) = markV q := by
  unfold gV marksV
  rw [List.getElem?_append_right (by omega)]
  simp [h]

set_option maxRecDepth 100000 in
set_option maxHeartbeats 4000000 in
theorem KeptRow_any (A A2 : Option Addr) (c c2 : Nat) (xs ys : List InsV) (he : ys.map (fun z : InsV => z.d) = xs.map (fun z : InsV => z.d)) (w : World) (B : Nat) (hL : LentR w B A c xs) (hy : RRow w A2 ys) :
    Calls Tryz.prog 115 #[.slice A xs.length c, .slice A2 ys.length c2] w (Fresh w (.bool true)) := by
  obtain ⟨hall, hcap⟩ := hL.all
  have hlx := hL.2.2
  have hLa := hL.2.1
  have hl := map_d_len he
  have hd := fun {i : Nat} (hi : i < xs.length) => map_d_at he hi
  have hlen : (xs ++ marksV 12).length = xs.length + 12 := by rw [List.length_append, marksV_len]
  obtain ⟨b, off, rfl, hb, _⟩ := hall.rd 0 (by omega)
  have hc0 : (xs.length : Int) + 12 ≤ (c : Int) := by omega
  rw [hl]
  have hn0 : ((xs.length : Int) != (xs.length : Int)) = false := by simp
  have hl' := Lib.hid hl
  clear hl he
  go_enter Tryz.func115, Tryz.ntmps115
  go_wp2
  go_loopw [6] (fun v6 W => ∃ k : Nat, k ≤ xs.length + 12 ∧ v6 = .int .i64 k ∧ Below w.heap.size w W) (fun v6 _ => xs.length + 12 - (intOf v6).toNat)
  case atStart => exact ⟨0, by omega, rfl, Below.refl _ _⟩
  case round =>
    obtain ⟨k, hk, rfl, hB⟩ := hrel
    by_cases hlt : k < xs.length + 12
    · have hd1 : decide ((k : Int) < (xs.length : Int) + 12) = true := decide_eq_true (by omega)
      have hallB := hall.below hB
      obtain ⟨b', off', e', hbl, hcell⟩ := hallB.rd k (by omega)
      cases e'
      have hk2 : (k : Int) < (xs.length : Int) + 12 := by omega
      have hk4 : (0 : Int) ≤ (k : Int) := by omega
      by_cases hin : k < xs.length
      · have hd2 : decide ((k : Int) < (xs.length : Int)) = true := decide_eq_true (by omega)
        have hd3 : decide ((k : Int) ≥ (xs.length : Int)) = false := decide_eq_false (by omega)
        have hd4 : decide (xs.length ≤ k) = false := decide_eq_false (by omega)
        have hk3 : (k : Int) < (xs.length : Int) := by omega
        have hyB := hy.below hB
        obtain ⟨b2, off2, rfl, hbl2, hc2⟩ := hyB.rd k (by have := hl'.out; omega)
        have ha2 := hyB.args k (by have := hl'.out; omega)
        have hdk := hd hin
        rw [gV_append hin] at hcell
        have ha1 : LentI wr B (gV xs k).A (gV xs k).c (gV xs k).d.args := by
          rw [gV_eq hin]
          exact (hLa _ (List.getElem_mem hin)).below hB
        generalize gV xs k = X at *
        generalize gV ys k = Y at *
        have hsame : ∀ W, Below wr.heap.size wr W → Calls Tryz.prog 139 #[.agg X.val, .agg Y.val] W (Fresh W (.bool true)) := fun W hW => KeptIns_any X Y hdk W B (ha1.below hW) (ha2.below hW)
        go_wp2
        change Code.wp _ _ _ (Act.mk _ _) _
        refine wp_region_quiet_below (by kernel_rfl) (by kernel_rfl) ?_
        repeat (first
          | go_big_quiet_skip
          | (go_big_quiet_want; first
              | (go_big_quiet_op; go_big_quiet_on)
              | ((first
                  | refine q_go ⟨_, ⟨0, #[]⟩, rfl⟩ (fun K' hk => q_loadM _ _ rfl b (off + k * 8) rfl X.val.toList _ (fun W hW => ins_range (hcell W (below_of_grow hW))) Tryz.underlying110 rfl (by kernel_rfl) hk) ?_
                  | refine q_go ⟨_, ⟨0, #[]⟩, rfl⟩ (fun K' hk => q_loadM _ _ rfl b2 (off2 + k * 8) rfl Y.val.toList _ (fun W hW => ins_range (hc2 W (below_of_grow hW))) Tryz.underlying110 rfl (by kernel_rfl) hk) ?_
                  | refine q_go ⟨_, ⟨0, #[]⟩, rfl⟩ (fun K' hk => q_call2 139 _ _ _ rfl (.agg X.val) rfl (.agg Y.val) rfl (by kernel_rfl) _ (fresh_grow hsame) hk) ?_); go_big_quiet_op; go_big_quiet_on)))
        refine wpQuiet_nil ?_
        intro W7 hW7'
        have hB7 := hB.trans ((below_of_grow hW7').mono hB.size)
        clear hW7' hcell hc2 hsame
        go_wp2
        go_roundw
        case rel => exact ⟨k + 1, by omega, by go_num, hB7⟩
        case measure => simp [intOf]; omega
      · have hd2 : decide ((k : Int) < (xs.length : Int)) = false := decide_eq_false (by omega)
        have hd3 : decide ((k : Int) ≥ (xs.length : Int)) = true := decide_eq_true (by omega)
        have hd4 : decide (xs.length ≤ k) = true := decide_eq_true (by omega)
        obtain ⟨q, hq⟩ : ∃ q, k = xs.length + q := ⟨k - xs.length, by omega⟩
        have hgm := gV_marks (xs := xs) (q := q) (by omega)
        rw [← hq] at hgm
        rw [hgm] at hcell
        have hwr : IntKind.i64.wrap ((k : Int) - (xs.length : Int)) = (q : Int) := by rw [IntKind.wrap_i64]; omega
        have hq12 : q < 12 := by omega
        have hq' := Lib.hid hq
        clear hq hgm
        have hmk : ∀ W, Below wr.heap.size wr W → Calls Tryz.prog 119 #[.int .i64 1, .int .i64 q] W (Fresh W (.agg (markV q).val)) := fun W _ => markIns_any q W (by omega)
        have hsame : ∀ W, Below wr.heap.size wr W → Calls Tryz.prog 120 #[.agg (markV q).val, .agg (markV q).val] W (Fresh W (.bool true)) := fun W hW => SameIns_any (markV q) (markV q) rfl W (RI.nil _ _) (RI.nil _ _)
        generalize markV q = M at *
        clear hk
        go_wp2
        change Code.wp _ _ _ (Act.mk _ _) _
        refine wp_region_quiet_below (by kernel_rfl) (by kernel_rfl) ?_
        repeat (first
          | go_big_quiet_skip
          | (go_big_quiet_want; first
              | (go_big_quiet_op; go_big_quiet_on)
              | ((first
                  | refine q_go ⟨_, ⟨0, #[]⟩, rfl⟩ (fun K' hk => q_loadM _ _ rfl b (off + k * 8) rfl M.val.toList _ (fun W hW => ins_range (hcell W (below_of_grow hW))) Tryz.underlying110 rfl (by kernel_rfl) hk) ?_
                  | refine q_go ⟨_, ⟨0, #[]⟩, rfl⟩ (fun K' hk => q_call2 119 _ _ _ rfl (.int .i64 1) rfl (.int .i64 q) rfl (by kernel_rfl) _ (fresh_grow hmk) hk) ?_
                  | refine q_go ⟨_, ⟨0, #[]⟩, rfl⟩ (fun K' hk => q_call2 120 _ _ _ rfl (.agg M.val) rfl (.agg M.val) rfl (by kernel_rfl) _ (fresh_grow hsame) hk) ?_); go_big_quiet_op; go_big_quiet_on)))
        refine wpQuiet_nil ?_
        intro W7 hW7'
        have hB7 := hB.trans ((below_of_grow hW7').mono hB.size)
        clear hW7' hcell hmk hsame
        go_wp2
        go_roundw
        case rel => exact ⟨k + 1, by have := hq'.out; omega, by go_num, hB7⟩
        case measure => simp [intOf]; omega
    · obtain rfl : k = xs.length + 12 := by omega
      have hd1 : decide ((xs.length : Int) + 12 < (xs.length : Int) + 12) = false := by simp
      go_wp2
      go_ret
      exact ⟨rfl, hB⟩

end Go.Proofs.YtjichaeegheacaaGreatDoor
