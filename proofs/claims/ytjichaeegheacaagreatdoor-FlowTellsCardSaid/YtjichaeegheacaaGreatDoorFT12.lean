/-
  LentR
-/
import Derived.Test.YtjichaeegheacaaGreatDoorFT9

/-
  intarsiakit: instructions, blocks, functions that are lent.
-/
namespace Go.Proofs.YtjichaeegheacaaGreatDoor
open Go Go.RowKit

theorem infoIns : (Tryz.prog.info? 110).map (fun i => (i.zero, i.size, i.bytes)) = some (some (.agg #[.int .i64 0, .int .i64 0, .int .i64 0, .int .i64 0, .int .i64 0, .int .i64 0, .slice none 0 0, .int .i64 0]), 8, 80) := by kernel_rfl
theorem infoBlock : (Tryz.prog.info? 49).map (fun i => (i.zero, i.size, i.bytes)) = some (some (.agg #[.slice none 0 0, .int .i64 0, .int .i64 0, .int .i64 0, .int .i64 0]), 5, 56) := by kernel_rfl

/-- The cells of a new block. -/
theorem cells_new {w : World} {g : Nat} {cs : Array Value} {t : TypeId} (hg : w.heap[g]? = some (.cells cs t (0, 0))) : ∀ j u, cs.toList[j]? = some u → w.cell? ((⟨g, 0, none⟩ : Addr).add j) = some u := by
  intro j u hj
  have hadd : (⟨g, 0, none⟩ : Addr).add j = ⟨g, j, none⟩ := by unfold Addr.add; split <;> simp_all
  rw [hadd, cell_of_row _ _ _ _ _ (0, 0) hg]
  simpa using hj

/-- Instructions that are lent. -/
def LentR (w : World) (B : Nat) (A : Option Addr) (c : Nat) (xs : List InsV) : Prop :=
  w.ownsRow B 110 8 (.slice A (xs.length + 12) c) (xs.length + 12) (insCells (xs ++ marksV 12)) ∧ (∀ x ∈ xs, LentI w B x.A x.c x.d.args) ∧ xs.length ≤ 100000
theorem LentR.below {w w' : World} {B : Nat} {A : Option Addr} {c : Nat} {xs : List InsV} (h : LentR w B A c xs) (hb : Below w.heap.size w w') : LentR w' B A c xs := ⟨own_below h.1 hb, fun x hx => (h.2.1 x hx).below hb, h.2.2⟩
/-- A row of one's own reads so. -/
theorem own_RRow {w : World} {B n : Nat} {v : Value} {xs : List InsV} (h : w.ownsRow B 110 8 v n (insCells xs)) (hl : xs.length ≤ 140737488355328) (ha : ∀ x ∈ xs, RI w x.A x.d.args) :
    ∃ A c, v = .slice A xs.length c ∧ xs.length ≤ c ∧ RRow w A xs := by
  obtain ⟨h1, h2⟩ := h
  have hn : n = xs.length := by rw [insCells_len] at h1; omega
  subst hn
  rcases h2 with ⟨rfl, h0⟩ | ⟨g, cap, cur, rfl, hg, hh, hc, hcap, hsz, htake⟩
  · have : xs = [] := List.eq_nil_of_length_eq_zero h0
    subst this
    exact ⟨none, 0, rfl, Nat.le_refl _, RRow.nil _ _⟩
  · refine ⟨some ⟨g, 0, none⟩, cap, rfl, hc, hl, fun i hi => ⟨g, 0, rfl, blk_lt hh, fun W hW j hj => ?_⟩, fun i hi => ?_⟩
    · have hh2 := blk_below hW hh (blk_lt hh)
      have hlt : i * 8 + j < xs.length * 8 := by omega
      rw [show 0 + i * 8 + j = i * 8 + j by omega, cell_of_row W g (i * 8 + j) cur _ (0, 0) hh2, ← insCells_at hi hj, ← htake]
      simp [hlt]
    · rw [gV_eq hi]; exact ha _ (List.getElem_mem hi)
theorem RI_nil0 {w : World} {A : Option Addr} {xs : List Int} (h : xs = []) : RI w A xs := by subst h; exact RI.nil _ _
theorem LentR.all {w : World} {B : Nat} {A : Option Addr} {c : Nat} {xs : List InsV} (h : LentR w B A c xs) : RRow w A (xs ++ marksV 12) ∧ xs.length + 12 ≤ c := by
  have hl := h.2.2
  have hlen : (xs ++ marksV 12).length = xs.length + 12 := by rw [List.length_append, marksV_len]
  have h1 := h.1
  obtain ⟨A', c', e, hc, hr⟩ := own_RRow h1 (by omega) (fun x hx => by
    rcases List.mem_append.1 hx with q | q
    · exact (h.2.1 x q).ri
    · obtain ⟨i, _, rfl⟩ := List.mem_map.1 q
      exact RI_nil0 rfl)
  simp only [Value.slice.injEq] at e
  obtain ⟨rfl, _, rfl⟩ := e
  exact ⟨hr, by omega⟩
theorem gV_append {xs ys : List InsV} {i : Nat} (h : i < xs.length) : gV (xs ++ ys) i = gV xs i := by simp [gV, List.getElem?_append_left h]
theorem RRow.left {w : World} {A : Option Addr} {xs ys : List InsV} (h : RRow w A (xs ++ ys)) : RRow w A xs := by
  have hl := h.len
  rw [List.length_append] at hl
  refine ⟨by omega, fun i hi => ?_, fun i hi => ?_⟩
  · have := h.rd i (by rw [List.length_append]; omega)
    rwa [gV_append hi] at this
  · have := h.args i (by rw [List.length_append]; omega)
    rwa [gV_append hi] at this
theorem LentR.rr {w : World} {B : Nat} {A : Option Addr} {c : Nat} {xs : List InsV} (h : LentR w B A c xs) : RRow w A xs := h.all.1.left

set_option maxRecDepth 100000 in
set_option maxHeartbeats 1000000 in
theorem LentIns_any (x : InsV) (w : World) (hr : RI w x.A x.d.args) (hl : x.d.args.length ≤ 500) :
    Calls Tryz.prog 135 #[.agg x.val] w fun e w' => ∃ y : InsV, e = .returned (.agg y.val) ∧ y.d = x.d ∧ LentI w' w.heap.size y.A y.c y.d.args ∧ Below w.heap.size w w' := by
  obtain ⟨d, A, c⟩ := x
  simp only [InsV.val, InsV.av] at *
  have hb1 := (Below.refl w.heap.size w).alloc (Nat.le_refl _) (.cells #[.int .i64 d.op, .int .i64 d.dst, .int .i64 d.a, .int .i64 d.b, .int .i64 d.imm, .int .i64 d.callee, .slice A d.args.length c, .int .i64 d.many] 110)
  have hb2 := hb1.alloc (by simp) (.cells #[.int .i64 0, .int .i64 0, .int .i64 0, .int .i64 0, .int .i64 0, .int .i64 0, .slice none 0 0, .int .i64 0] 110)
  have n1 := blk_new w (.cells #[.int .i64 d.op, .int .i64 d.dst, .int .i64 d.a, .int .i64 d.b, .int .i64 d.imm, .int .i64 d.callee, .slice A d.args.length c, .int .i64 d.many] 110)
  have n1' := (blk_old (w.alloc (.cells #[.int .i64 d.op, .int .i64 d.dst, .int .i64 d.a, .int .i64 d.b, .int .i64 d.imm, .int .i64 d.callee, .slice A d.args.length c, .int .i64 d.many] 110)) (.cells #[.int .i64 0, .int .i64 0, .int .i64 0, .int .i64 0, .int .i64 0, .int .i64 0, .slice none 0 0, .int .i64 0] 110) (blk_lt n1)).trans n1
  have n2 := blk_new (w.alloc (.cells #[.int .i64 d.op, .int .i64 d.dst, .int .i64 d.a, .int .i64 d.b, .int .i64 d.imm, .int .i64 d.callee, .slice A d.args.length c, .int .i64 d.many] 110)) (.cells #[.int .i64 0, .int .i64 0, .int .i64 0, .int .i64 0, .int .i64 0, .int .i64 0, .slice none 0 0, .int .i64 0] 110)
  rw [World.size_alloc] at n2
  go_enter Tryz.func135, Tryz.ntmps135
  go_wp2_with fail
  refine (LentInts_any A c d.args _ (hr.below hb2) hl).mono ?_
  rintro e W1 ⟨A', c', rfl, hL, hb3⟩
  have m1 := blk_below hb3 n1' (blk_lt n1')
  have m2 := blk_below hb3 n2 (blk_lt n2)
  have hB := hb2.trans (hb3.mono hb2.size)
  have hsz := hb2.size
  generalize ((w.alloc (.cells #[.int .i64 d.op, .int .i64 d.dst, .int .i64 d.a, .int .i64 d.b, .int .i64 d.imm, .int .i64 d.callee, .slice A d.args.length c, .int .i64 d.many] 110)).alloc (.cells #[.int .i64 0, .int .i64 0, .int .i64 0, .int .i64 0, .int .i64 0, .int .i64 0, .slice none 0 0, .int .i64 0] 110)) = w2 at *
  have c6 := (cell_of_row _ _ 6 _ _ _ m1).trans (show #[.int .i64 d.op, .int .i64 d.dst, .int .i64 d.a, .int .i64 d.b, .int .i64 d.imm, .int .i64 d.callee, .slice A d.args.length c, .int .i64 d.many][6]? = some (Value.slice A d.args.length c) from rfl)
  have f6 := frozen_of_row _ _ 6 _ _ m1
  have s1 : (W1.setCell ⟨w.heap.size, 6, none⟩ (.slice A' d.args.length c')).heap[w.heap.size]? = some (.cells #[.int .i64 d.op, .int .i64 d.dst, .int .i64 d.a, .int .i64 d.b, .int .i64 d.imm, .int .i64 d.callee, .slice A' d.args.length c', .int .i64 d.many] 110 (0, 0)) := blk_set m1
  have s2 := (blk_far (p := ⟨w.heap.size, 6, none⟩) (v := .slice A' d.args.length c') (show w.heap.size + 1 ≠ w.heap.size by omega)).trans m2
  go_wp2_with (first
    | (refine wpList_load_row rfl _ _ rfl _ rfl _ _ _ _ s1 Tryz.underlying110 rfl (by kernel_rfl) ?_)
    | (refine wpList_store_row rfl _ _ _ rfl (w.heap.size + 1) #[.int .i64 d.op, .int .i64 d.dst, .int .i64 d.a, .int .i64 d.b, .int .i64 d.imm, .int .i64 d.callee, .slice A' d.args.length c', .int .i64 d.many] rfl rfl _ _ s2 (by kernel_rfl) rfl (by simp [int_one, slice_one]) ?_))
  have hBs : Below w.heap.size w (W1.setCell ⟨w.heap.size, 6, none⟩ (.slice A' d.args.length c')) := hB.setCell (p := ⟨w.heap.size, 6, none⟩) (Nat.le_refl _) _
  have hBr := below_setRow hBs (g := w.heap.size + 1) (by omega) #[.int .i64 d.op, .int .i64 d.dst, .int .i64 d.a, .int .i64 d.b, .int .i64 d.imm, .int .i64 d.callee, .slice A' d.args.length c', .int .i64 d.many]
  refine bodyPost_ret (results_cell_row rfl _ _ _ _ _ _ _ rfl (blk_setRow s2) Tryz.underlying110 rfl (by kernel_rfl)) rfl ⟨⟨d, A', c'⟩, rfl, rfl, ⟨?_, hL.2⟩, hBr⟩
  obtain ⟨g, cap, cur, e1, hg, hb, hrest⟩ := own_some hL.1 (by omega)
  refine ⟨hL.1.1, .inr ⟨g, cap, cur, e1, Nat.le_trans hsz hg, ?_, hrest⟩⟩
  have hs2 : w.heap.size + 2 ≤ w2.heap.size := blk_lt n2
  rw [blk_setRow_far (by omega), blk_far (p := ⟨w.heap.size, 6, none⟩) (by simp only; omega)]
  exact hb

theorem lentI_down {w : World} {B B' : Nat} {A : Option Addr} {c : Nat} {xs : List Int} (h : LentI w B A c xs) (hB : B' ≤ B) : LentI w B' A c xs := ⟨own_down h.1 hB, h.2⟩
theorem lentI_other {w w' : World} {B B2 n2 s2 : Nat} {A : Option Addr} {c : Nat} {xs : List Int} {e2 : TypeId} {v2 : Value} {ys : List Value} (h : LentI w B A c xs) (h2 : w.ownsRow B2 e2 s2 v2 n2 ys) (hne : 3 ≠ e2) (hg : w.grownBy w' v2.ownBlock) : LentI w' B A c xs := ⟨own_other h.1 h2 hne hg, h.2⟩

theorem map_take_succ {α β : Type} (f : α → β) (xs : List α) {k : Nat} (hk : k < xs.length) : (xs.take (k + 1)).map f = (xs.take k).map f ++ [f (xs[k]'hk)] := by
  rw [List.take_succ_eq_append_getElem hk, List.map_append]; rfl

/-- append of one struct that was just laid, onto a row of one's own. -/
theorem wpList_appRow {ops : Array Oper} {rest : List Oper} {o : Oper} {a : Act} {w : World} {Q : Exit → Act → World → Prop} (hgd : o.guard = none) (s x : Operand) (t e : TypeId) (size bytes : Nat) (z : Value)
    (ho : o.op = .call { callee := .builtin .append, args := #[s, x], argTypes := #[t, t] }) (ht : Tryz.prog.underlying t = some (.slice e)) (hinf : (Tryz.prog.info? e).map (fun i => (i.zero, i.size, i.bytes)) = some (some z, size, bytes)) (hzs : z.cells.size = size) (hsz : 0 < size) (hby : bytes ≤ 1000)
    (B : Nat) (v : Value) (hs : a.eval s = v) (n : Nat) (xs : List Value) (hown : w.ownsRow B e size v n xs) (hn : n ≤ 100000)
    (g c : Nat) (cs : Array Value) (hx : a.eval x = .slice (some ⟨g, 0, none⟩) 1 c) (hr : w.heap[g]? = some (.cells cs e (0, 0))) (hcs : cs.size = size) (h1 : ∀ u ∈ cs.toList, u.oneCell' = true) (hB : B ≤ w.heap.size)
    (h : ∀ v' w', w'.ownsRow B e size v' (n + 1) (xs ++ cs.toList) → w.grownBy w' v.ownBlock → wpList Tryz.prog ops Q rest (a.put o.dst v') w') : wpList Tryz.prog ops Q (o :: rest) a w := by
  obtain ⟨i0, hi, hz0, hz1, hz2⟩ := info_parts hinf
  have hbb : (n + 1) * bytes ≤ 140737488355328 := by
    have := Nat.mul_le_mul (show n + 1 ≤ 100001 by omega) hby
    omega
  exact wpList_append_own w hgd s x t ho B e i0 z size bytes ht hi hz0 hz1 hz2 hzs hsz v n xs hs hown ⟨g, 0, none⟩ 1 c cs.toList hx (by simp [hcs]) (cells_new hr) h1 (by unfold maxLen; omega) hbb hB (fun v' w' q1 q2 _ => h v' w' q1 q2)
theorem insCells_snoc (xs : List InsV) (y : InsV) : insCells (xs ++ [y]) = insCells xs ++ y.val.toList := by simp [insCells]
theorem blkCells_snoc (xs : List BlkV) (y : BlkV) : blkCells (xs ++ [y]) = blkCells xs ++ y.val.toList := by simp [blkCells]

set_option maxRecDepth 100000 in
set_option maxHeartbeats 4000000 in
theorem LentRow_any (A : Option Addr) (c : Nat) (xs : List InsV) (w : World) (hr : RRow w A xs) (hl : SmallR 500 xs) :
    Calls Tryz.prog 108 #[.slice A xs.length c] w fun e w' => ∃ (ys : List InsV) (A' : Option Addr) (c' : Nat), e = .returned (.slice A' ys.length c') ∧ ys.map (·.d) = xs.map (·.d) ∧ LentR w' w.heap.size A' c' ys ∧ Below w.heap.size w w' := by
  have hlen := hl.len
  obtain ⟨i0, hi, hz0, hz1, hz2⟩ := info_parts infoIns
  go_enter Tryz.func108, Tryz.ntmps108
  go_wp2_with (refine wpList_make_own _ rfl _ _ 43 rfl w.heap.size 110 i0 _ 8 Tryz.underlying43 hi hz0 hz1 _ _ _ (xs.length + 12) rfl rfl (by simp) (by rw [hz2]; omega) (by unfold maxLen; omega) (Nat.le_refl _) ?_; intro W1 hown1 hgr1)
  have hB1 : Below w.heap.size w W1 := (Below.refl _ _).grown hgr1 (Nat.le_refl _) (fun k e => by cases e)
  go_loopw [3, 4, 5] (fun v3 v4 _ W => ∃ (k : Nat) (ys : List InsV), k ≤ xs.length ∧ v4 = .int .i64 k ∧ ys.length = k ∧ W.ownsRow w.heap.size 110 8 v3 k (insCells ys) ∧ ys.map (·.d) = (xs.take k).map (·.d) ∧ (∀ y ∈ ys, LentI W w.heap.size y.A y.c y.d.args) ∧ Below w.heap.size w W) (fun _ v4 _ _ => xs.length - (intOf v4).toNat)
  case atStart => exact ⟨0, [], Nat.zero_le _, rfl, rfl, hown1, by simp, by simp, hB1⟩
  case round =>
    clear hB1 hown1 hgr1
    obtain ⟨k, ys, hk, rfl, hyl, hown, hys, hla, hB⟩ := hrel
    by_cases hlt : k < xs.length
    · have hd : decide ((k : Int) < (xs.length : Int)) = true := decide_eq_true (by omega)
      obtain ⟨b, off, rfl, hbl, hcell⟩ := (hr.below hB).rd k hlt
      have hcs := hcell _ (Below.refl _ _)
      have hra := (hr.below hB).args k hlt
      have hla500 := hl.args k hlt
      have hmt := map_take_succ (·.d) xs hlt
      rw [← gV_eq hlt] at hmt
      generalize hX : gV xs k = X at *
      have q0 := hcs 0 (by decide)
      have q1 := hcs 1 (by decide)
      have q2 := hcs 2 (by decide)
      have q3 := hcs 3 (by decide)
      have q4 := hcs 4 (by decide)
      have q5 := hcs 5 (by decide)
      have q6 := hcs 6 (by decide)
      have q7 := hcs 7 (by decide)
      simp only [InsV.cell, Nat.add_zero] at q0 q1 q2 q3 q4 q5 q6 q7
      have hcall := LentIns_any X wr hra hla500
      have hmt' := Lib.hid hmt
      have hys' := Lib.hid hys
      clear hcs hcell hmt hys
      go_wp2_with fail
      refine hcall.mono ?_
      rintro e W2 ⟨⟨yd, yA, yc⟩, rfl, hyd, hyl2, hb2⟩
      simp only at hyd
      subst hyd
      simp only [InsV.val, InsV.av]
      have n5 := blk_new W2 (.cells #[.int .i64 X.d.op, .int .i64 X.d.dst, .int .i64 X.d.a, .int .i64 X.d.b, .int .i64 X.d.imm, .int .i64 X.d.callee, .slice yA X.d.args.length yc, .int .i64 X.d.many] 110)
      have hb3 := (Below.refl W2.heap.size W2).alloc (Nat.le_refl _) (.cells #[.int .i64 X.d.op, .int .i64 X.d.dst, .int .i64 X.d.a, .int .i64 X.d.b, .int .i64 X.d.imm, .int .i64 X.d.callee, .slice yA X.d.args.length yc, .int .i64 X.d.many] 110)
      generalize hW3 : W2.alloc (.cells #[.int .i64 X.d.op, .int .i64 X.d.dst, .int .i64 X.d.a, .int .i64 X.d.b, .int .i64 X.d.imm, .int .i64 X.d.callee, .slice yA X.d.args.length yc, .int .i64 X.d.many] 110) = W3 at *
      have n6 := blk_new W3 (.cells #[.int .i64 X.d.op, .int .i64 X.d.dst, .int .i64 X.d.a, .int .i64 X.d.b, .int .i64 X.d.imm, .int .i64 X.d.callee, .slice yA X.d.args.length yc, .int .i64 X.d.many] 110)
      have hb4 := (Below.refl W3.heap.size W3).alloc (Nat.le_refl _) (.cells #[.int .i64 X.d.op, .int .i64 X.d.dst, .int .i64 X.d.a, .int .i64 X.d.b, .int .i64 X.d.imm, .int .i64 X.d.callee, .slice yA X.d.args.length yc, .int .i64 X.d.many] 110)
      have hb24 := hb2.trans ((hb3.trans (hb4.mono hb3.size)).mono hb2.size)
      have hown4 := own_below hown hb24
      have hla4 := fun y hy => (hla y hy).below hb24
      have hy4 := lentI_down (hyl2.below (hb3.trans (hb4.mono hb3.size))) hB.size
      have hB4 := hB.trans (hb24.mono hB.size)
      have hS4 := hB4.size
      clear hb24 hb4 hb3 hb2 hown hla hyl2 hB
      go_wp2_with (first
        | (refine wpList_load_row rfl _ _ rfl _ rfl _ _ _ _ n5 Tryz.underlying110 rfl (by kernel_rfl) ?_)
        | (refine wpList_appRow rfl _ _ 43 110 8 80 _ rfl Tryz.underlying43 infoIns rfl (by decide) (by decide) w.heap.size _ rfl k (insCells ys) hown4 (by omega) _ _ #[.int .i64 X.d.op, .int .i64 X.d.dst, .int .i64 X.d.a, .int .i64 X.d.b, .int .i64 X.d.imm, .int .i64 X.d.callee, .slice yA X.d.args.length yc, .int .i64 X.d.many] rfl n6 rfl (InsV.val_one ⟨X.d, yA, yc⟩) hS4 ?_; intro v9 W8 hown8 hg8))
      have hB8 := grown_up hown4 hB4 hg8 hS4
      have hla8 : ∀ y ∈ ys ++ [⟨X.d, yA, yc⟩], LentI W8 w.heap.size y.A y.c y.d.args := by
        intro y hy
        rcases List.mem_append.1 hy with q | q
        · exact lentI_other (hla4 y q) hown4 (by decide) hg8
        · have : y = ⟨X.d, yA, yc⟩ := by simpa using q
          subst this
          exact lentI_other hy4 hown4 (by decide) hg8
      have hown9 : W8.ownsRow w.heap.size 110 8 v9 (k + 1) (insCells (ys ++ [⟨X.d, yA, yc⟩])) := by
        rw [insCells_snoc]; exact hown8
      have hyy : (ys ++ [(⟨X.d, yA, yc⟩ : InsV)]).map (fun x : InsV => x.d) = (xs.take (k + 1)).map (fun x : InsV => x.d) := by
        rw [hmt'.out, List.map_append, hys'.out]; rfl
      have hyy' := Lib.hid hyy
      clear hyy hown8
      go_roundw
      case rel => exact ⟨k + 1, ys ++ [⟨X.d, yA, yc⟩], by omega, by go_num, by simp [hyl], hown9, hyy'.out, hla8, hB8⟩
      case measure => simp [intOf]; omega
    · obtain rfl : k = xs.length := by omega
      have hd : decide ((xs.length : Int) < (xs.length : Int)) = false := by simp
      rw [List.take_length] at hys
      have hys' := Lib.hid hys
      have hyl' := Lib.hid hyl
      clear hys hyl
      go_wp2
      go_loopw [3, 6] (fun v3 v6 W => ∃ m : Nat, m ≤ 12 ∧ v6 = .int .i64 m ∧ W.ownsRow w.heap.size 110 8 v3 (xs.length + m) (insCells (ys ++ marksV m)) ∧ (∀ y ∈ ys, LentI W w.heap.size y.A y.c y.d.args) ∧ Below w.heap.size w W) (fun _ v6 _ => 12 - (intOf v6).toNat)
      case atStart => exact ⟨0, by omega, rfl, by simpa [marksV] using hown, hla, hB⟩
      case round =>
        clear hB hown hla
        obtain ⟨m, hm, rfl, hown, hla, hB⟩ := hrel
        by_cases hlt : m < 12
        · have hd : decide ((m : Int) < 12) = true := decide_eq_true (by omega)
          go_wp2_with fail
          refine (markIns_any m _ (by omega)).mono ?_
          rintro e W1 ⟨rfl, hb1⟩
          simp only [markV, InsV.val, InsV.av, List.length_nil]
          have n6 := blk_new W1 (.cells #[.int .i64 0, .int .i64 0, .int .i64 0, .int .i64 0, .int .i64 (markN 1 m), .int .i64 0, .slice none 0 0, .int .i64 0] 110)
          have hb4 := hb1.trans (((Below.refl W1.heap.size W1).alloc (Nat.le_refl _) (.cells #[.int .i64 0, .int .i64 0, .int .i64 0, .int .i64 0, .int .i64 (markN 1 m), .int .i64 0, .slice none 0 0, .int .i64 0] 110)).mono hb1.size)
          have hown4 := own_below hown hb4
          have hla4 := fun y hy => (hla y hy).below hb4
          have hB4 := hB.trans (hb4.mono hB.size)
          have hS4 := hB4.size
          clear hb4 hb1 hown hla hB
          go_wp2_with (refine wpList_appRow rfl _ _ 43 110 8 80 _ rfl Tryz.underlying43 infoIns rfl (by decide) (by decide) w.heap.size _ rfl (xs.length + m) (insCells (ys ++ marksV m)) hown4 (by omega) _ _ #[.int .i64 0, .int .i64 0, .int .i64 0, .int .i64 0, .int .i64 (markN 1 m), .int .i64 0, .slice none 0 0, .int .i64 0] rfl n6 rfl (InsV.val_one (markV m)) hS4 ?_; intro v9 W8 hown8 hg8)
          have hB8 := grown_up hown4 hB4 hg8 hS4
          have hla8 := fun y hy => lentI_other (hla4 y hy) hown4 (by decide) hg8
          have hown9 : W8.ownsRow w.heap.size 110 8 v9 (xs.length + (m + 1)) (insCells (ys ++ marksV (m + 1))) := by
            rw [marksV_succ, ← List.append_assoc, insCells_snoc]; exact hown8
          clear hown8
          go_roundw
          case rel => exact ⟨m + 1, by omega, by go_num, hown9, hla8, hB8⟩
          case measure => simp [intOf]; omega
        · obtain rfl : m = 12 := by omega
          have hd : decide (((12 : Nat) : Int) < 12) = false := by decide
          obtain ⟨g, cap, cur, rfl, hg, hb, hnc, hcm, hcs, htk⟩ := own_some hown (by omega)
          have hle : (xs.length : Int) ≤ (cap : Int) := by omega
          go_wp2
          go_ret
          exact ⟨ys, some ⟨g, 0, none⟩, cap, by rw [hyl'.out]; rfl, hys'.out, ⟨by rw [hyl'.out]; exact hown, hla, by rw [hyl'.out]; omega⟩, hB⟩

end Go.Proofs.YtjichaeegheacaaGreatDoor
