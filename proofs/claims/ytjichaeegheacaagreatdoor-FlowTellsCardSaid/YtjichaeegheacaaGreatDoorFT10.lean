/-
  FlatI
-/
import Derived.Test.YtjichaeegheacaaGreatDoorFT9

/-
  intarsiakit.flatInts: the walk.
-/
namespace Go.Proofs.YtjichaeegheacaaGreatDoor
open Go Go.RowKit

theorem mark_fresh (k i : Nat) (k1 : k ≤ 100000) (i1 : i ≤ 100000000) (W : World) : Calls Tryz.prog 49 #[.int .i64 k, .int .i64 i] W (Fresh W (.int .i64 (markN k i))) :=
  (mark_any k i W (by omega) (by omega) (by omega) (by omega)).mono fun _ _ h => ⟨h.1, by rw [h.2]; exact Below.refl _ _⟩
/-- One place of list k is written. -/
theorem LS.store {w : World} {B Lb : Nat} {cs : Array Value} {xs : List SV} {W : World} (h : LS w B Lb cs xs W) (ha : LA B xs) {k : Nat} (hk : k < xs.length) {b off : Nat} (eA : (gS xs k).A = some ⟨b, off, none⟩) (i : Nat) (v : Value) : LS w B Lb cs xs (W.setCell ⟨b, i, none⟩ v) := by
  have hbk : (gS xs k).bk = some b := by simp [SV.bk, eA]
  refine ⟨(blk_far (p := ⟨b, i, none⟩) (row_ne h.row (h.own k hk) hbk)).trans h.row, fun j hj => ?_, h.below.setCell (p := ⟨b, i, none⟩) (ha.low k hk b hbk) v, fun b' hb' hne => (blk_far (p := ⟨b, i, none⟩) (fun e => hne k hk (by rw [hbk, e]))).trans (h.fr b' hb' hne)⟩
  by_cases e : j = k
  · subst e
    rcases h.own j hj with ⟨q, _⟩ | ⟨b', off', cur, q, hb, hsz, hn⟩
    · rw [eA] at q; cases q
    · rw [eA] at q
      cases q
      exact .inr ⟨b, off, _, eA, blk_set hb, by simpa using hsz, hn⟩
  · exact (h.own j hj).same fun b' hb' _ => blk_far (p := ⟨b, i, none⟩) (fun q => ha.sep j k hj hk e b' hb' (by rw [hbk, q]))
theorem MkTo.store {B : Nat} {xs : List SV} {W : World} {m : Nat} (hM : MkTo xs W m) (ha : LA B xs) {k : Nat} (hk : k < xs.length) (hmk : m ≤ k) {b off : Nat} (eA : (gS xs k).A = some ⟨b, off, none⟩) (i : Nat) (v : Value) : MkTo xs (W.setCell ⟨b, i, none⟩ v) m := by
  have hbk : (gS xs k).bk = some b := by simp [SV.bk, eA]
  intro j hj q hq
  exact (rdS_same (fun b' hb' => blk_far (p := ⟨b, i, none⟩) (fun e => ha.sep j k (by omega) hk (by omega) b' hb' (by rw [hbk, e]))) q).trans (hM j hj q hq)
theorem rdS_at {W : World} {x : SV} {b off : Nat} (eA : x.A = some ⟨b, off, none⟩) (i : Nat) : rdS W x i = W.cell? ⟨b, off + i, none⟩ := by unfold rdS; rw [eA]

/-- An append onto what list k has grown to. -/
theorem Tk.app {xs : List SV} {k : Nat} {w0 W W' : World} {X g g' : SV} {ys : List Int} (hX : gS xs k = X) (hO : Ow w0 X) (ht : Tk xs k w0 W) (h : AppOut W g ys g' W') (hc : (g.A = X.A ∧ g.c = X.c ∧ X.n ≤ g.n) ∨ ∃ b, g.bk = some b ∧ w0.heap.size ≤ b) : Tk xs k w0 W' := by
  subst hX
  rcases hc with ⟨e1, e2, e3⟩ | ⟨b, e, hb⟩
  · have ebk : g.bk = (gS xs k).bk := by simp [SV.bk, e1]
    refine ⟨Nat.le_trans ht.size h.size, fun b hb hne => (h.other b (Nat.lt_of_lt_of_le hb ht.size) (by rw [ebk]; exact hne)).trans (ht.other b hb hne), ?_, fun i hi => ?_⟩
    · rcases h.old with ⟨q1, q2, q3⟩ | ⟨b, off, cur, q1, q2, q3, q4⟩
      · exact .inl ⟨e1 ▸ q1, by omega, by omega⟩
      · refine .inr ⟨b, off, cur, e1 ▸ q1, q2, by omega, ?_⟩
        rcases ht.own with ⟨_, _, _⟩ | ⟨_, _, _, _, _, _, q5⟩
        · omega
        · exact q5
    · have e4 : ∀ V, rdS V (gS xs k) i = rdS V g i := fun V => by unfold rdS; rw [e1]
      rw [e4, h.keep i (by omega), ← e4]
      exact ht.keep i hi
  · have hsame : ∀ b', b' < w0.heap.size → W'.heap[b']? = W.heap[b']? := fun b' hb' => h.other b' (Nat.lt_of_lt_of_le hb' ht.size) (by rw [e]; intro q; injection q with q; omega)
    refine ⟨Nat.le_trans ht.size h.size, fun b' hb' hne => (hsame b' hb').trans (ht.other b' hb' hne), ht.own.same fun b' hb' _ => hsame b' (hO.lt hb'), fun i hi => (rdS_same (fun b' hb' => hsame b' (hO.lt hb')) i).trans (ht.keep i hi)⟩
theorem Tk.up {xs : List SV} {k : Nat} {w0 W W' : World} {X : SV} (hX : gS xs k = X) (hO : Ow w0 X) (ht : Tk xs k w0 W) (h : Below W.heap.size W W') : Tk xs k w0 W' := by
  subst hX
  have hsame : ∀ b', b' < w0.heap.size → W'.heap[b']? = W.heap[b']? := fun b' hb' => h.block b' (Nat.lt_of_lt_of_le hb' ht.size)
  exact ⟨Nat.le_trans ht.size h.size, fun b' hb' hne => (hsame b' hb').trans (ht.other b' hb' hne), ht.own.same fun b' hb' _ => hsame b' (hO.lt hb'), fun i hi => (rdS_same (fun b' hb' => hsame b' (hO.lt hb')) i).trans (ht.keep i hi)⟩
theorem bk_eq {x y : SV} (h : x.A = y.A) : x.bk = y.bk := by simp [SV.bk, h]
theorem infoSl : (Tryz.prog.info? 22).map (fun i => (i.zero, i.size, i.bytes)) = some (some (.slice none 0 0), 1, 24) := by kernel_rfl
set_option maxRecDepth 100000 in
set_option maxHeartbeats 8000000 in
theorem flatInts_any (Lb cl B : Nat) (cs : Array Value) (xs : List SV) (w : World) (hpos : 0 < xs.length) (hm : xs.length ≤ 100) (hL : LS w B Lb cs xs w) (hcs : ∀ k, k < xs.length → cs[k]? = some (gS xs k).val) (hA : LA B xs) (hn : ∀ k, k < xs.length → (gS xs k).n ≤ 1024) (hB : B ≤ w.heap.size) :
    Calls Tryz.prog 91 #[.slice (some ⟨Lb, 0, none⟩) xs.length cl] w fun e w' => e = .returned (.bool true) ∧ Below B w w' ∧ ∀ b, b < w.heap.size → (∀ k, k < xs.length → (gS xs k).bk ≠ some b) → w'.heap[b]? = w.heap[b]? := by
  have hcell : ∀ (W : World) (k : Nat), LS w B Lb cs xs W → k < xs.length → W.cell? ⟨Lb, k, none⟩ = some (gS xs k).val := fun W k h hk => (cell_of_row W Lb k cs _ (0, 0) h.row).trans (hcs k hk)
  have hcell' := Lib.hid hcell
  clear hcell hcs
  go_enter Tryz.func91, Tryz.ntmps91
  go_wp2
  change Code.wp _ _ _ (Act.mk _ _) _
  go_loopw [3] (fun v3 W => ∃ k : Nat, k ≤ xs.length ∧ v3 = .int .i64 k ∧ LS w B Lb cs xs W ∧ MkTo xs W k) (fun v3 _ => xs.length - (intOf v3).toNat)
  case atStart => exact ⟨0, Nat.zero_le _, rfl, hL, fun j hj => absurd hj (Nat.not_lt_zero _)⟩
  case round =>
    clear hL
    obtain ⟨k, hk, rfl, hL, hM⟩ := hrel
    by_cases hkl : k < xs.length
    · have hd : decide ((k : Int) < (xs.length : Int)) = true := decide_eq_true (by omega)
      have hk4 : (0 : Int) ≤ (k : Int) := by omega
      have hk2 : (k : Int) < (xs.length : Int) := by omega
      have hnk := hn k hkl
      have hck := fun W h => hcell'.out W k h hkl
      unfold SV.val at hck
      generalize hX : gS xs k = X at *
      go_wp2
      change Code.wp _ _ _ (Act.mk _ _) _
      go_loopw [4] (fun v4 W => ∃ i : Nat, i ≤ X.n ∧ v4 = .int .i64 i ∧ LS w B Lb cs xs W ∧ MkTo xs W k ∧ ∀ q, q < i → rdS W X q = some (.int .i64 (markN k q))) (fun v4 _ => X.n - (intOf v4).toNat)
      case atStart => exact ⟨0, Nat.zero_le _, rfl, hL, hM, fun j hj => absurd hj (Nat.not_lt_zero _)⟩
      case round =>
        clear hL hM
        obtain ⟨i, hi, rfl, hL, hM, hq⟩ := hrel
        have hc1 := hck wr hL
        by_cases hil : i < X.n
        · have hd2 : decide ((i : Int) < (X.n : Int)) = true := decide_eq_true (by omega)
          have hi4 : (0 : Int) ≤ (i : Int) := by omega
          have hi2 : (i : Int) < (X.n : Int) := by omega
          have hdr : Below wr.heap.size wr wr.drew := (Below.refl _ _).drew
          have hSB : B ≤ wr.heap.size := Nat.le_trans hB hL.below.size
          have hL3 := hL.up hSB hdr
          have hM3 := hM.up hk hL.own hdr
          have hOx : Ow wr X := by rw [← hX]; exact hL.own k hkl
          have hq3 : ∀ q, q < i → rdS wr.drew X q = some (.int .i64 (markN k q)) := fun q h => hq q h
          have hXc : X.n ≤ X.c := by
            rcases hOx with ⟨_, _, _⟩ | ⟨_, _, _, _, _, _, h⟩ <;> omega
          obtain ⟨b, off, cur, eA, hbb, hsz⟩ := hOx.at_ (i := i) (by omega)
          obtain ⟨v0, hv0⟩ := cur_cell hbb hsz
          have hv3 : wr.drew.cell? ⟨b, off + i, none⟩ = some v0 := hv0
          have hfz : wr.drew.frozen? ⟨b, off + i, none⟩ = false := frozen_of_row wr b (off + i) cur _ hbb
          have hcW : ∀ W, Below wr.heap.size wr W → W.cell? ⟨Lb, k, none⟩ = some (.slice X.A X.n X.c) := fun W hW => (hW.cell (p := ⟨Lb, k, none⟩) (blk_lt hL.row)).trans hc1
          have eA2 := eA
          rw [← hX] at eA2
          have eA' := Lib.hid eA
          have eA3 := Lib.hid eA2
          have hX' := Lib.hid hX
          clear hq eA eA2 hX hM hv0 hbb hOx
          go_wp2
          change Code.wp _ _ _ (Act.mk _ _) _
          refine wp_region_tree_tail (S := fun W => ∃ p : Regrown, W = Sort.grow (redrawn wr p.d) p.os) (.look [0, 1, 2, 3, 4, 5, 6] (.one 7 .done)) (by kernel_rfl) (by kernel_rfl) (regrown_of_below ((Below.refl wr.heap.size wr).drew)) (fun d _ _ _ _ h => by cases d <;> exact h) ?_
          refine tree_look ?_
          dsimp only [pickL, nthO]
          repeat (first
            | go_big_quiet_skip
            | (go_big_quiet_want; first
                | (go_big_quiet_op; go_big_quiet_on)
                | (refine q_go ⟨_, ⟨0, #[]⟩, rfl⟩ (fun K' hk => q_loadS _ _ rfl ⟨Lb, k, none⟩ rfl _ Tryz.underlying22 _ (fun W hW => hcW W (below_of_grow hW)) hk) ?_; go_big_quiet_op; go_big_quiet_on)))
          refine wpQuiet_nil ?_
          refine tree_one rfl ?_
          go_wp2_with fail
          refine (mark_any k i _ (by omega) (by omega) (by omega) (by omega)).mono ?_
          rintro e W1 ⟨rfl, rfl⟩
          go_wp2
          refine ⟨regrown_of_below hdr, ?_⟩
          refine tree_done ?_
          simp only [MT.deep, List.length_cons, List.length_nil, Nat.reduceAdd, List.drop_succ_cons, List.drop_zero]
          obtain ⟨w3, hw3⟩ : ∃ w3, w3 = wr.drew := ⟨_, rfl⟩
          rw [← hw3] at hL3 hM3 hq3 hv3 hfz hdr ⊢
          clear hw3
          have hLs := hL3.store hA hkl (b := b) (off := off) eA3.out (off + i) (.int .i64 (markN k i))
          have hMs := hM3.store hA hkl (Nat.le_refl _) (b := b) (off := off) eA3.out (off + i) (.int .i64 (markN k i))
          have hqs : ∀ q, q < i + 1 → rdS (w3.setCell ⟨b, off + i, none⟩ (.int .i64 (markN k i))) X q = some (.int .i64 (markN k q)) := fun q hq2 => by
            rw [rdS_at eA'.out]
            by_cases e : q = i
            · subst e; exact World.cell?_setCell_same' _ _ _ (by rw [hv3]; rfl)
            · have := hq3 q (by omega)
              rw [rdS_at eA'.out] at this
              rw [← this]
              apply World.cell?_setCell_other
              intro q2
              injection q2 with _ q2
              omega
          rw [eA'.out]
          go_wp2
          go_roundw
          case rel => exact ⟨i + 1, by omega, by go_num, hLs, hMs, hqs⟩
          case measure => simp [intOf]; omega
        · obtain rfl : i = X.n := by omega
          have hd2 : decide ((X.n : Int) < (X.n : Int)) = false := by simp
          have hM2 : MkTo xs wr (k + 1) := fun j hj q hq2 => by
            by_cases e : j = k
            · subst e
              rw [hX] at hq2 ⊢
              exact hq q hq2
            · exact hM j (by omega) q hq2
          clear hq hX
          go_wp2
          go_roundw
          case rel => exact ⟨k + 1, by omega, by go_num, hL, hM2⟩
          case measure => simp [intOf]; omega
    · obtain rfl : k = xs.length := by omega
      have hd : decide ((xs.length : Int) < (xs.length : Int)) = false := by simp
      obtain ⟨i0, hi, hz0, hz1, hz2⟩ := info_parts infoSl
      have hSB : B ≤ wr.heap.size := Nat.le_trans hB hL.below.size
      go_wp2_with (refine wpList_make_full _ rfl _ _ 41 rfl wr.heap.size 22 i0 (.slice none 0 0) 1 Tryz.underlying41 hi hz0 hz1 _ _ _ _ xs.length rfl rfl rfl rfl (by rw [hz2]; omega) (by unfold maxLen; omega) (Nat.le_refl _) ?_; intro W1 hown1 hgr1)
      have hb1 : Below wr.heap.size wr W1 := (Below.refl _ _).grown hgr1 (Nat.le_refl _) (fun k e => by cases e)
      obtain ⟨g0, cap0, cg, eg, hg0, hgb, _, _, hgs, _⟩ := own_some hown1 hpos
      simp only [Value.slice.injEq, Option.some.injEq, Addr.mk.injEq, and_true, true_and] at eg
      obtain ⟨rfl, rfl⟩ := eg
      have hGS : GS xs [] wr.heap.size (fun j => (gS xs j).n + 64) W1 := ⟨⟨cg, hgb, by rw [hgs]; omega, fun j hj => absurd hj (Nat.not_lt_zero _)⟩, fun j hj => absurd hj (Nat.not_lt_zero _), fun j hj => absurd hj (Nat.not_lt_zero _), fun j hj => absurd hj (Nat.not_lt_zero _), fun j hj => absurd hj (Nat.not_lt_zero _)⟩
      have hne : Lb ≠ wr.heap.size := fun e => by have := blk_lt hL.row; omega
      have hM1 := hM.up (Nat.le_refl _) hL.own hb1
      have hL1 := hL.up hSB hb1
      have hGB : B ≤ wr.heap.size := hSB
      have hGw : w.heap.size ≤ wr.heap.size := hL.below.size
      generalize wr.heap.size = Gb at *
      clear hown1 hgr1 hb1 hg0 hgb hgs hL hM
      change Code.wp _ _ _ (Act.mk _ _) _
      go_loopw [6] (fun v6 W => ∃ (k : Nat) (gs : List SV), k ≤ xs.length ∧ v6 = .int .i64 k ∧ gs.length = k ∧ LS w B Lb cs xs W ∧ MkTo xs W xs.length ∧ GS xs gs Gb (fun j => (gS xs j).n + 64) W) (fun v6 _ => xs.length - (intOf v6).toNat)
      case atStart => exact ⟨0, [], Nat.zero_le _, rfl, rfl, hL1, hM1, hGS⟩
      case round =>
        clear hL1 hM1 hGS
        obtain ⟨k, gs, hk, rfl, hgl, hL, hM, hG⟩ := hrel
        have hgl' := Lib.hid hgl
        clear hgl
        by_cases hkl : k < xs.length
        · have hd : decide ((k : Int) < (xs.length : Int)) = true := decide_eq_true (by omega)
          have hk4 : (0 : Int) ≤ (k : Int) := by omega
          have hk2 : (k : Int) < (xs.length : Int) := by omega
          have hnk := hn k hkl
          have hck := fun W h => hcell'.out W k h hkl
          unfold SV.val at hck
          have hO0 := hL.own k hkl
          have hc1 := hck wr hL
          obtain ⟨X, hX⟩ : ∃ X, gS xs k = X := ⟨_, rfl⟩
          rw [hX] at hnk hO0 hc1
          have hck2 : ∀ W, LS w B Lb cs xs W → W.cell? ⟨Lb, k, none⟩ = some (.slice X.A X.n X.c) := fun W h => by rw [← hX]; exact hck W h
          have hX' := Lib.hid hX
          have hck' := Lib.hid hck2
          clear hck hck2 hX
          obtain ⟨w0, rfl⟩ : ∃ w0 : World, w0 = wr := ⟨_, rfl⟩
          go_wp2
          change Code.wp _ _ _ (Act.mk _ _) _
          go_loopw [7, 8] (fun v7 v8 W => ∃ (i : Nat) (g : SV), i ≤ 64 ∧ v8 = .int .i64 i ∧ v7 = .slice g.A g.n g.c ∧ g.n = X.n + i ∧ Ow W g ∧ Tk xs k w0 W ∧ Below B w0 W ∧ (g.A = X.A ∧ g.c = X.c ∨ ∃ b, g.bk = some b ∧ w0.heap.size ≤ b) ∧ ∀ q, q < X.n + i → rdS W g q = some (.int .i64 (markN k q))) (fun _ v8 _ => 64 - (intOf v8).toNat)
          case atStart =>
            refine ⟨0, X, Nat.zero_le _, rfl, rfl, rfl, hO0, ?_, ?_, .inl ⟨rfl, rfl⟩, fun q hq => ?_⟩
            · exact Tk.of_below (Below.refl _ _) (by rw [hX'.out]; exact hO0)
            · exact Below.refl _ _
            · have := hM k hkl q (by rw [hX'.out]; exact hq)
              rwa [hX'.out] at this
          case round =>
            obtain ⟨i, g, hi, rfl, rfl, hgn, hOg, ht, hb, hloc, hq⟩ := hrel
            have hLr := hL.tk hA hkl ht hb
            have hcr := hck'.out wr hLr
            have hSz := hb.size
            have hlow : ∀ b, g.bk = some b → B ≤ b := fun b hbk => by
              rcases hloc with ⟨e1, _⟩ | ⟨b', e1, e2⟩
              · rw [bk_eq e1, ← hX'.out] at hbk
                exact hA.low k hkl b hbk
              · rw [e1] at hbk
                injection hbk with hbk
                have := hL.below.size
                omega
            have hgn' := Lib.hid hgn
            by_cases hi64 : i < 64
            · have hd2 : decide ((i : Int) < 64) = true := decide_eq_true (by omega)
              have hb7 := (Below.refl wr.heap.size wr).alloc (Nat.le_refl _) (.cells #[.int .i64 (markN k ((X.n : Int) + i))] 3)
              have hO7 : Ow (wr.alloc (.cells #[.int .i64 (markN k ((X.n : Int) + i))] 3)) g := hOg.same fun b _ hlt => hb7.block b hlt
              have hn7 := blk_new wr (.cells #[.int .i64 (markN k ((X.n : Int) + i))] 3)
              have hg7 : ∀ j, j < [markN k ((X.n : Int) + i)].length → (wr.alloc (.cells #[.int .i64 (markN k ((X.n : Int) + i))] 3)).cell? ⟨wr.heap.size, j, none⟩ = some (.int .i64 (gI [markN k ((X.n : Int) + i)] j)) := fun j hj => by
                simp at hj
                subst hj
                exact (cell_of_row _ _ 0 _ _ _ hn7).trans rfl
              have hg7' := Lib.hid hg7
              have hq' := Lib.hid hq
              clear hg7 hn7 hgn hq
              go_wp2_with fail
              refine (mark_any k ((X.n : Int) + i) _ (by omega) (by omega) (by omega) (by omega)).mono ?_
              rintro e W2 ⟨rfl, rfl⟩
              go_wp2_with (refine wpList_appSl rfl _ _ rfl g rfl hO7 _ _ 1 [markN k ((X.n : Int) + i)] rfl rfl hg7'.out (by simp) (by simp only [List.length_cons, List.length_nil]; have := hgn'.out; omega) ?_; intro g' W5 happ)
              have ht5 := (ht.up hX'.out hO0 hb7).app hX'.out hO0 happ (hloc.imp (fun h => ⟨h.1, h.2, by have := hgn'.out; omega⟩) id)
              have hBw : B ≤ W2.heap.size := Nat.le_trans (Nat.le_trans hB hL.below.size) hSz
              have hb5 : Below B w0 W5 := (hb.trans (hb7.mono hBw)).trans (happ.below B (Nat.le_trans hBw hb7.size) hlow)
              have hn5 : g'.n = X.n + (i + 1) := by rw [happ.n, hgn'.out]; simp; omega
              have hloc5 : (g'.A = X.A ∧ g'.c = X.c) ∨ ∃ b, g'.bk = some b ∧ w0.heap.size ≤ b := by
                rcases happ.loc with ⟨e1, e2⟩ | ⟨b, e1, e2⟩
                · rcases hloc with ⟨e3, e4⟩ | ⟨b, e3, e4⟩
                  · exact .inl ⟨e1.trans e3, e2.trans e4⟩
                  · exact .inr ⟨b, (bk_eq e1).trans e3, e4⟩
                · exact .inr ⟨b, e1, Nat.le_trans hSz (Nat.le_trans hb7.size e2)⟩
              have hq5 : ∀ q, q < X.n + (i + 1) → rdS W5 g' q = some (.int .i64 (markN k q)) := fun q hq2 => by
                have hgo := hgn'.out
                by_cases e : q < X.n + i
                · rw [happ.pre q (by omega)]
                  exact (rdS_same (fun b hbk => hb7.block b (hOg.lt hbk)) q).trans (hq'.out q e)
                · have e2 : q = g.n + 0 := by omega
                  rw [e2, happ.post 0 (by simp)]
                  simp [gI, hgo]
              have hn5' := Lib.hid hn5
              clear hn5 hb7 hO7 hg7'
              go_roundw
              case rel => exact ⟨i + 1, g', by omega, by go_num, rfl, hn5'.out, happ.own, ht5, hb5, hloc5, hq5⟩
              case measure => simp [intOf]; omega
            · obtain rfl : i = 64 := by omega
              have hd2 : decide (((64 : Nat) : Int) < 64) = false := by decide
              have hGr := hG.tk (k := k) (by rw [hX'.out]; exact hO0) hkl (by rw [hgl'.out]; exact Nat.le_refl _) ht
              have hMr := hM.tk (Nat.le_refl _) hL.own hA hkl ht
              obtain ⟨cg, hrow, hcgs, _⟩ := hGr.row
              obtain ⟨v0, hv0⟩ := cur_cell hrow (i := k) (by omega)
              have hfz := frozen_of_row wr Gb k cg _ hrow
              have hLs := hLr.set hrow hne hGB hGw k (.slice g.A g.n g.c)
              have hMs := hMr.set (Nat.le_refl _) hLr.own hrow k (.slice g.A g.n g.c)
              have hsep : ∀ l, l < xs.length → l ≠ gs.length → ∀ b, (gS xs l).bk = some b → g.bk ≠ some b := fun l hl hlk b hbl => by
                rw [hgl'.out] at hlk
                rcases hloc with ⟨e1, _⟩ | ⟨b', e1, e2⟩
                · rw [bk_eq e1, ← hX'.out]
                  exact hA.sep l k hl hkl hlk b hbl
                · rw [e1]
                  intro q2
                  injection q2 with q2
                  have := (hL.own l hl).lt hbl
                  omega
              have hGs := hGr.put (by rw [hgl'.out]; exact hkl) hOg hsep (by rw [hgl'.out, hX'.out]; exact hgn) (fun q hq2 => by
                simp only [hgl'.out, hX'.out] at hq2 ⊢
                exact hq q hq2)
              rw [hgl'.out] at hGs
              have hgl2 : (gs ++ [g]).length = k + 1 := by rw [List.length_append, hgl'.out]; rfl
              have hgl2' := Lib.hid hgl2
              unfold SV.val at hGs
              clear hgl2 hq hgn hcr hrow
              go_wp2
              go_roundw
              case rel => exact ⟨k + 1, gs ++ [g], by omega, by go_num, hgl2'.out, hLs, hMs, hGs⟩
              case measure => simp [intOf]; omega
        · obtain rfl : k = xs.length := by omega
          have hd : decide ((xs.length : Int) < (xs.length : Int)) = false := by simp
          obtain ⟨w1, rfl⟩ : ∃ w1 : World, w1 = wr := ⟨_, rfl⟩
          have hSB1 : B ≤ w1.heap.size := Nat.le_trans hB hL.below.size
          go_wp2
          change Code.wp _ _ _ (Act.mk _ _) _
          go_loopw [9] (fun v9 W => ∃ k : Nat, k ≤ xs.length ∧ v9 = .int .i64 k ∧ Below w1.heap.size w1 W) (fun v9 _ => xs.length - (intOf v9).toNat)
          case atStart => exact ⟨0, Nat.zero_le _, rfl, Below.refl _ _⟩
          case round =>
            obtain ⟨k, hk, rfl, hb1⟩ := hrel
            by_cases hkl : k < xs.length
            · have hd3 : decide ((k : Int) < (xs.length : Int)) = true := decide_eq_true (by omega)
              have hk4 : (0 : Int) ≤ (k : Int) := by omega
              have hk2 : (k : Int) < (xs.length : Int) := by omega
              have hnk := hn k hkl
              have hkg : k < gs.length := by rw [hgl'.out]; exact hkl
              have hcg : ∀ W, Below w1.heap.size w1 W → W.cell? ⟨Gb, k, none⟩ = some (.slice (gS gs k).A (gS gs k).n (gS gs k).c) := fun W hW => by
                obtain ⟨cg, hrow, _, hj⟩ := (hG.up hW).row
                exact (cell_of_row W Gb k cg _ (0, 0) hrow).trans (hj k hkg)
              have hcx : ∀ W, Below w1.heap.size w1 W → W.cell? ⟨Lb, k, none⟩ = some (.slice (gS xs k).A (gS xs k).n (gS xs k).c) := fun W hW => hcell'.out W k (hL.up hSB1 hW) hkl
              have hlg := hG.len k hkg
              have hmg : ∀ W, Below w1.heap.size w1 W → ∀ q, q < (gS xs k).n + 64 → rdS W (gS gs k) q = some (.int .i64 (markN k q)) := fun W hW q hq => (hG.up hW).mks k hkg q hq
              have hmx : ∀ W, Below w1.heap.size w1 W → ∀ q, q < (gS xs k).n → rdS W (gS xs k) q = some (.int .i64 (markN k q)) := fun W hW q hq => (hM.up (Nat.le_refl _) hL.own hW) k hkl q hq
              have hOg := hG.own k hkg
              have hOx := hL.own k hkl
              generalize gS xs k = X at *
              generalize gS gs k = G at *
              have hcg' := Lib.hid hcg
              have hcx' := Lib.hid hcx
              have hmg' := Lib.hid hmg
              have hmx' := Lib.hid hmx
              have hcg0 := hcg wr hb1
              have hlg2 : (G.n : Int) = (X.n : Int) + 64 := by omega
              have hlg' := Lib.hid hlg
              clear hcg hcx hmg hmx hlg2
              go_wp2
              change Code.wp _ _ _ (Act.mk _ _) _
              go_loopw [10] (fun v10 W => ∃ q : Nat, q ≤ G.n ∧ v10 = .int .i64 q ∧ Below w1.heap.size w1 W) (fun v10 _ => G.n - (intOf v10).toNat)
              case atStart => exact ⟨0, Nat.zero_le _, rfl, hb1⟩
              case round =>
                clear hb1 hcg0
                obtain ⟨q, hq, rfl, hb1⟩ := hrel
                have hcg0 := hcg'.out wr hb1
                by_cases hql : q < G.n
                · have hd4 : decide ((q : Int) < (G.n : Int)) = true := decide_eq_true (by omega)
                  have hq4 : (0 : Int) ≤ (q : Int) := by omega
                  have hq2 : (q : Int) < (G.n : Int) := by omega
                  have hlg := hlg'.out
                  obtain ⟨bg, og, _, eG, _, _⟩ := hOg.at_ (i := q) (by rcases hOg with ⟨_, _, _⟩ | ⟨_, _, _, _, _, _, h⟩ <;> omega)
                  have hcgW : ∀ W, Below wr.heap.size wr W → W.cell? ⟨Gb, k, none⟩ = some (.slice (some ⟨bg, og, none⟩) G.n G.c) := fun W hW => by rw [← eG]; exact hcg'.out W (hb1.trans (hW.mono hb1.size))
                  have hcxW : ∀ W, Below wr.heap.size wr W → W.cell? ⟨Lb, k, none⟩ = some (.slice X.A X.n X.c) := fun W hW => hcx'.out W (hb1.trans (hW.mono hb1.size))
                  have hgq : ∀ W, Below wr.heap.size wr W → W.cell? ⟨bg, og + q, none⟩ = some (.int .i64 (markN k q)) := fun W hW => by
                    have := hmg'.out W (hb1.trans (hW.mono hb1.size)) q (by omega)
                    rwa [rdS_at eG] at this
                  have hmk : ∀ W, Below wr.heap.size wr W → Calls Tryz.prog 49 #[.int .i64 k, .int .i64 q] W (Fresh W (.int .i64 (markN k q))) := fun W _ => mark_fresh k q (by omega) (by omega) W
                  rw [eG] at hcg0
                  have eG' := Lib.hid eG
                  clear eG
                  by_cases hqx : q < X.n
                  · have hd5 : decide ((q : Int) < (X.n : Int)) = true := decide_eq_true (by omega)
                    have hd6 : decide (q < X.n) = true := decide_eq_true hqx
                    have hq3 : (q : Int) < (X.n : Int) := by omega
                    obtain ⟨bx, ox, _, eX, _, _⟩ := hOx.at_ (i := q) (by rcases hOx with ⟨_, _, _⟩ | ⟨_, _, _, _, _, _, h⟩ <;> omega)
                    rw [eX] at hcxW
                    have hxq : ∀ W, Below wr.heap.size wr W → W.cell? ⟨bx, ox + q, none⟩ = some (.int .i64 (markN k q)) := fun W hW => by
                      have := hmx'.out W (hb1.trans (hW.mono hb1.size)) q hqx
                      rwa [rdS_at eX] at this
                    have eX' := Lib.hid eX
                    clear eX hlg
                    go_wp2
                    change Code.wp _ _ _ (Act.mk _ _) _
                    refine wp_region_quiet_below (by kernel_rfl) (by kernel_rfl) ?_
                    repeat (first
                | go_big_quiet_skip
                | (go_big_quiet_want; first
                    | (go_big_quiet_op; go_big_quiet_on)
                    | ((first
                        | refine q_go ⟨_, ⟨0, #[]⟩, rfl⟩ (fun K' hk => q_loadS _ _ rfl ⟨Gb, k, none⟩ rfl _ Tryz.underlying22 _ (fun W hW => hcgW W (below_of_grow hW)) hk) ?_
                        | refine q_go ⟨_, ⟨0, #[]⟩, rfl⟩ (fun K' hk => q_loadS _ _ rfl ⟨Lb, k, none⟩ rfl _ Tryz.underlying22 _ (fun W hW => hcxW W (below_of_grow hW)) hk) ?_
                        | refine q_go ⟨_, ⟨0, #[]⟩, rfl⟩ (fun K' hk => q_load1 _ _ rfl ⟨bg, og + q, none⟩ rfl _ Tryz.underlying3 _ (fun W hW => hgq W (below_of_grow hW)) hk) ?_
                        | refine q_go ⟨_, ⟨0, #[]⟩, rfl⟩ (fun K' hk => q_load1 _ _ rfl ⟨bx, ox + q, none⟩ rfl _ Tryz.underlying3 _ (fun W hW => hxq W (below_of_grow hW)) hk) ?_
                        | refine q_go ⟨_, ⟨0, #[]⟩, rfl⟩ (fun K' hk => q_call2 49 _ _ _ rfl (.int .i64 k) rfl (.int .i64 q) rfl (by kernel_rfl) _ (fresh_grow hmk) hk) ?_); go_big_quiet_op; go_big_quiet_on)))
                    refine wpQuiet_nil ?_
                    intro W7 hW7'
                    have hb2 := hb1.trans ((below_of_grow hW7').mono hb1.size)
                    clear hW7' hcgW hcxW hgq hxq hmk
                    go_wp2
                    go_roundw
                    case rel => exact ⟨q + 1, by omega, by go_num, hb2⟩
                    case measure => simp [intOf]; omega
                  · have hd5 : decide ((q : Int) < (X.n : Int)) = false := decide_eq_false (by omega)
                    have hd6 : decide (q < X.n) = false := decide_eq_false hqx
                    clear hlg
                    go_wp2
                    change Code.wp _ _ _ (Act.mk _ _) _
                    refine wp_region_quiet_below (by kernel_rfl) (by kernel_rfl) ?_
                    repeat (first
                | go_big_quiet_skip
                | (go_big_quiet_want; first
                    | (go_big_quiet_op; go_big_quiet_on)
                    | ((first
                        | refine q_go ⟨_, ⟨0, #[]⟩, rfl⟩ (fun K' hk => q_loadS _ _ rfl ⟨Gb, k, none⟩ rfl _ Tryz.underlying22 _ (fun W hW => hcgW W (below_of_grow hW)) hk) ?_
                        | refine q_go ⟨_, ⟨0, #[]⟩, rfl⟩ (fun K' hk => q_loadS _ _ rfl ⟨Lb, k, none⟩ rfl _ Tryz.underlying22 _ (fun W hW => hcxW W (below_of_grow hW)) hk) ?_
                        | refine q_go ⟨_, ⟨0, #[]⟩, rfl⟩ (fun K' hk => q_load1 _ _ rfl ⟨bg, og + q, none⟩ rfl _ Tryz.underlying3 _ (fun W hW => hgq W (below_of_grow hW)) hk) ?_
                        | refine q_go ⟨_, ⟨0, #[]⟩, rfl⟩ (fun K' hk => q_call2 49 _ _ _ rfl (.int .i64 k) rfl (.int .i64 q) rfl (by kernel_rfl) _ (fresh_grow hmk) hk) ?_); go_big_quiet_op; go_big_quiet_on)))
                    refine wpQuiet_nil ?_
                    intro W7 hW7'
                    have hb2 := hb1.trans ((below_of_grow hW7').mono hb1.size)
                    clear hW7' hcgW hcxW hgq hmk
                    go_wp2
                    go_roundw
                    case rel => exact ⟨q + 1, by omega, by go_num, hb2⟩
                    case measure => simp [intOf]; omega
                · obtain rfl : q = G.n := by omega
                  have hd4 : decide ((G.n : Int) < (G.n : Int)) = false := by simp
                  go_wp2
                  go_roundw
                  case rel => exact ⟨k + 1, by omega, by go_num, hb1⟩
                  case measure => simp [intOf]; omega
            · obtain rfl : k = xs.length := by omega
              have hd3 : decide ((xs.length : Int) < (xs.length : Int)) = false := by simp
              have hL2 := hL.up hSB1 hb1
              have hM2 := hM.up (Nat.le_refl _) hL.own hb1
              have hG2 := (hG.up hb1)
              obtain ⟨cg, hrow, hcgs, _⟩ := hG2.row
              have hG0 : GS xs [] Gb (fun j => (gS xs j).n) wr := ⟨⟨cg, hrow, hcgs, fun j hj => absurd hj (Nat.not_lt_zero _)⟩, fun j hj => absurd hj (Nat.not_lt_zero _), fun j hj => absurd hj (Nat.not_lt_zero _), fun j hj => absurd hj (Nat.not_lt_zero _), fun j hj => absurd hj (Nat.not_lt_zero _)⟩
              clear hL hM hG hG2 hrow hb1 hgl' hSB1
              go_wp2
              change Code.wp _ _ _ (Act.mk _ _) _
              go_loopw [11] (fun v11 W => ∃ (k : Nat) (gs : List SV), k ≤ xs.length ∧ v11 = .int .i64 k ∧ gs.length = k ∧ LS w B Lb cs xs W ∧ MkTo xs W xs.length ∧ GS xs gs Gb (fun j => (gS xs j).n) W) (fun v11 _ => xs.length - (intOf v11).toNat)
              case atStart => exact ⟨0, [], Nat.zero_le _, rfl, rfl, hL2, hM2, hG0⟩
              case round =>
                clear hL2 hM2 hG0
                obtain ⟨k, gs, hk, rfl, hgl, hL, hM, hG⟩ := hrel
                have hgl' := Lib.hid hgl
                clear hgl
                by_cases hkl : k < xs.length
                · have hd4 : decide ((k : Int) < (xs.length : Int)) = true := decide_eq_true (by omega)
                  have hk4 : (0 : Int) ≤ (k : Int) := by omega
                  have hk2 : (k : Int) < (xs.length : Int) := by omega
                  have hnk := hn k hkl
                  have hO0 := hL.own k hkl
                  have hck := fun W h => hcell'.out W k h hkl
                  unfold SV.val at hck
                  obtain ⟨X, hX⟩ : ∃ X, gS xs k = X := ⟨_, rfl⟩
                  rw [hX] at hnk hO0
                  have hck2 : ∀ W, LS w B Lb cs xs W → W.cell? ⟨Lb, k, none⟩ = some (.slice X.A X.n X.c) := fun W h => by rw [← hX]; exact hck W h
                  have hX' := Lib.hid hX
                  have hck' := Lib.hid hck2
                  clear hck hck2 hX
                  obtain ⟨i1, hi', hy0, hy1, hy2⟩ := info_parts infoInt
                  have hSB : B ≤ wr.heap.size := Nat.le_trans hB hL.below.size
                  go_wp2_with (refine wpList_make_full _ rfl _ _ 22 rfl wr.heap.size 3 i1 (.int .i64 0) 1 Tryz.underlying22 hi' hy0 hy1 _ _ _ _ 64 rfl rfl rfl rfl (by rw [hy2]; omega) (by unfold maxLen; omega) (Nat.le_refl _) ?_; intro W1 hown1 hgr1)
                  have hb1 : Below wr.heap.size wr W1 := (Below.refl _ _).grown hgr1 (Nat.le_refl _) (fun k e => by cases e)
                  obtain ⟨g0, cap0, cm, eg, _, hmb, _, _, hms, _⟩ := own_some hown1 (by decide)
                  simp only [Value.slice.injEq, Option.some.injEq, Addr.mk.injEq, and_true, true_and] at eg
                  obtain ⟨rfl, rfl⟩ := eg
                  clear hown1 hgr1
                  obtain ⟨w0, rfl⟩ : ∃ w0 : World, w0 = wr := ⟨_, rfl⟩
                  change Code.wp _ _ _ (Act.mk _ _) _
                  go_loopw [13] (fun v13 W => ∃ (i : Nat) (cur : Array Value), i ≤ 64 ∧ v13 = .int .i64 i ∧ W.heap[w0.heap.size]? = some (.cells cur 3 (0, 0)) ∧ cur.size = 64 ∧ (∀ q, q < i → cur[q]? = some (.int .i64 (markN ((k : Int) + xs.length) q))) ∧ Below w0.heap.size w0 W) (fun v13 _ => 64 - (intOf v13).toNat)
                  case atStart => exact ⟨0, cm, Nat.zero_le _, rfl, hmb, by omega, fun q hq => absurd hq (Nat.not_lt_zero _), hb1⟩
                  case round =>
                    clear hmb hms hb1
                    obtain ⟨i, cur, hi, rfl, hmb, hms, hq, hb1⟩ := hrel
                    have hms' := Lib.hid hms
                    have hq' := Lib.hid hq
                    clear hms hq
                    by_cases hi64 : i < 64
                    · have hd5 : decide ((i : Int) < 64) = true := decide_eq_true (by omega)
                      have hi4 : (0 : Int) ≤ (i : Int) := by omega
                      obtain ⟨v0, hv0⟩ := cur_cell hmb (i := i) (by have := hms'.out; omega)
                      have hfz := frozen_of_row wr w0.heap.size i cur _ hmb
                      have hset := blk_set (i := i) (v := .int .i64 (markN ((k : Int) + xs.length) i)) hmb
                      have hbs := hb1.setCell (p := ⟨w0.heap.size, i, none⟩) (Nat.le_refl _) (.int .i64 (markN ((k : Int) + xs.length) i))
                      have hq2 : ∀ q, q < i + 1 → (cur.setIfInBounds i (.int .i64 (markN ((k : Int) + xs.length) i)))[q]? = some (.int .i64 (markN ((k : Int) + xs.length) q)) := fun q hq2 => by
                        rw [Array.getElem?_setIfInBounds]
                        by_cases e : i = q
                        · subst e; rw [if_pos rfl, if_pos (by have := hms'.out; omega)]
                        · rw [if_neg e]; exact hq'.out q (by omega)
                      have hq2' := Lib.hid hq2
                      clear hq2
                      have hi64' : (i : Int) < 64 := by omega
                      clear hmb
                      go_wp2_with fail
                      refine (mark_any ((k : Int) + xs.length) i _ (by omega) (by omega) (by omega) (by omega)).mono ?_
                      rintro e W2 ⟨rfl, rfl⟩
                      go_wp2
                      go_roundw
                      case rel => exact ⟨i + 1, _, by omega, by go_num, hset, by have := hms'.out; simpa using this, hq2'.out, hbs⟩
                      case measure => simp [intOf]; omega
                    · obtain rfl : i = 64 := by omega
                      have hd5 : decide (((64 : Nat) : Int) < 64) = false := by decide
                      have hLr := hL.up hSB hb1
                      have hMr := hM.up (Nat.le_refl _) hL.own hb1
                      have hGr := hG.up hb1
                      have hcr := hck'.out wr hLr
                      have hOr : Ow wr X := by rw [← hX'.out]; exact hLr.own k hkl
                      have hSr : B ≤ wr.heap.size := Nat.le_trans hSB hb1.size
                      have hyl : ((List.range 64).map fun q : Nat => markN ((k : Int) + xs.length) q).length = 64 := by simp
                      have hyg : ∀ j, j < ((List.range 64).map fun q : Nat => markN ((k : Int) + xs.length) q).length → wr.cell? ⟨w0.heap.size, j, none⟩ = some (.int .i64 (gI ((List.range 64).map fun q : Nat => markN ((k : Int) + xs.length) q) j)) := fun j hj => by
                        rw [hyl] at hj
                        rw [cell_of_row wr w0.heap.size j cur _ (0, 0) hmb, hq'.out j hj]
                        simp [gI, hj]
                      generalize ((List.range 64).map fun q : Nat => markN ((k : Int) + xs.length) q) = ys at *
                      have key : ∀ g' W5, AppOut wr X ys g' W5 → (∃ v0, W5.cell? ⟨Gb, k, none⟩ = some v0) ∧ W5.frozen? ⟨Gb, k, none⟩ = false ∧ LS w B Lb cs xs (W5.setCell ⟨Gb, k, none⟩ (.slice g'.A g'.n g'.c)) ∧ MkTo xs (W5.setCell ⟨Gb, k, none⟩ (.slice g'.A g'.n g'.c)) xs.length ∧ GS xs (gs ++ [g']) Gb (fun j => (gS xs j).n) (W5.setCell ⟨Gb, k, none⟩ (.slice g'.A g'.n g'.c)) := fun g' W5 happ => by
                        have ht0 : Tk xs k wr wr := Tk.of_below (Below.refl _ _) (by rw [hX'.out]; exact hOr)
                        have ht5 := ht0.app hX'.out hOr happ (.inl ⟨rfl, rfl, Nat.le_refl _⟩)
                        have hlow : ∀ b, X.bk = some b → B ≤ b := fun b hbk => by
                          rw [← hX'.out] at hbk
                          exact hA.low k hkl b hbk
                        have hb5 := happ.below B hSr hlow
                        have hL5 := hLr.tk hA hkl ht5 hb5
                        have hM5 := hMr.tk (Nat.le_refl _) hLr.own hA hkl ht5
                        have hG5 := hGr.tk (k := k) (by rw [hX'.out]; exact hOr) hkl (by rw [hgl'.out]; exact Nat.le_refl _) ht5
                        obtain ⟨cg, hrow, hcgs, _⟩ := hG5.row
                        have hsep : ∀ l, l < xs.length → l ≠ gs.length → ∀ b, (gS xs l).bk = some b → g'.bk ≠ some b := fun l hl hlk b hbl => by
                          rw [hgl'.out] at hlk
                          rcases happ.loc with ⟨e1, _⟩ | ⟨b', e1, e2⟩
                          · rw [bk_eq e1, ← hX'.out]
                            exact hA.sep l k hl hkl hlk b hbl
                          · rw [e1]
                            intro q2
                            injection q2 with q2
                            have := (hLr.own l hl).lt hbl
                            omega
                        have hGs := hG5.put (by rw [hgl'.out]; exact hkl) happ.own hsep (by rw [hgl'.out, hX'.out, happ.n, hyl]) (fun q hq2 => by
                          simp only [hgl'.out, hX'.out] at hq2 ⊢
                          rw [happ.pre q hq2]
                          have := hMr k hkl q (by rw [hX'.out]; exact hq2)
                          rwa [hX'.out] at this)
                        rw [hgl'.out] at hGs
                        exact ⟨cur_cell hrow (i := k) (by omega), frozen_of_row W5 Gb k cg _ hrow, hL5.set hrow hne hGB hGw k _, hM5.set (Nat.le_refl _) hL5.own hrow k _, hGs⟩
                      have hyl' := Lib.hid hyl
                      have key' := Lib.hid key
                      have hyg' := Lib.hid hyg
                      have hgl2 : ∀ g' : SV, (gs ++ [g']).length = k + 1 := fun g' => by rw [List.length_append, hgl'.out]; rfl
                      have hgl2' := Lib.hid hgl2
                      clear hyl key hyg hgl2 hmb
                      go_wp2_with (refine wpList_appSl rfl _ _ rfl X rfl hOr w0.heap.size 64 64 ys rfl hyl'.out.symm hyg'.out (by rw [hyl'.out]; decide) (by rw [hyl'.out]; omega) ?_; intro g' W5 happ; obtain ⟨⟨v0, hv0⟩, hfz, hrest⟩ := key'.out g' W5 happ; have hrest' := Lib.hid hrest; clear hrest happ)
                      obtain ⟨r1, r2, r3⟩ := hrest'.out
                      clear hrest'
                      go_roundw
                      case rel => exact ⟨k + 1, gs ++ [g'], by omega, by go_num, hgl2'.out g', r1, r2, r3⟩
                      case measure => simp [intOf]; omega
                · obtain rfl : k = xs.length := by omega
                  have hd4 : decide ((xs.length : Int) < (xs.length : Int)) = false := by simp
                  obtain ⟨w1, rfl⟩ : ∃ w1 : World, w1 = wr := ⟨_, rfl⟩
                  have hSB1 : B ≤ w1.heap.size := Nat.le_trans hB hL.below.size
                  go_wp2
                  change Code.wp _ _ _ (Act.mk _ _) _
                  go_loopw [14] (fun v14 W => ∃ k : Nat, k ≤ xs.length ∧ v14 = .int .i64 k ∧ Below w1.heap.size w1 W) (fun v14 _ => xs.length - (intOf v14).toNat)
                  case atStart => exact ⟨0, Nat.zero_le _, rfl, Below.refl _ _⟩
                  case round =>
                    obtain ⟨k, hk, rfl, hb1⟩ := hrel
                    by_cases hkl : k < xs.length
                    · have hd5 : decide ((k : Int) < (xs.length : Int)) = true := decide_eq_true (by omega)
                      have hk4 : (0 : Int) ≤ (k : Int) := by omega
                      have hk2 : (k : Int) < (xs.length : Int) := by omega
                      have hnk := hn k hkl
                      have hkg : k < gs.length := by rw [hgl'.out]; exact hkl
                      have hcg : ∀ W, Below w1.heap.size w1 W → W.cell? ⟨Gb, k, none⟩ = some (.slice (gS gs k).A (gS gs k).n (gS gs k).c) := fun W hW => by
                        obtain ⟨cg, hrow, _, hj⟩ := (hG.up hW).row
                        exact (cell_of_row W Gb k cg _ (0, 0) hrow).trans (hj k hkg)
                      have hcx : ∀ W, Below w1.heap.size w1 W → W.cell? ⟨Lb, k, none⟩ = some (.slice (gS xs k).A (gS xs k).n (gS xs k).c) := fun W hW => hcell'.out W k (hL.up hSB1 hW) hkl
                      have hlg := hG.len k hkg
                      have hmg : ∀ W, Below w1.heap.size w1 W → ∀ q, q < (gS xs k).n → rdS W (gS gs k) q = some (.int .i64 (markN k q)) := fun W hW q hq => (hG.up hW).mks k hkg q hq
                      have hmx : ∀ W, Below w1.heap.size w1 W → ∀ q, q < (gS xs k).n → rdS W (gS xs k) q = some (.int .i64 (markN k q)) := fun W hW q hq => (hM.up (Nat.le_refl _) hL.own hW) k hkl q hq
                      have hOg := hG.own k hkg
                      have hOx := hL.own k hkl
                      generalize gS xs k = X at *
                      generalize gS gs k = G at *
                      have hcg' := Lib.hid hcg
                      have hcx' := Lib.hid hcx
                      have hmg' := Lib.hid hmg
                      have hmx' := Lib.hid hmx
                      have hcx0 := hcx wr hb1
                      have hlg' := Lib.hid hlg
                      clear hcg hcx hmg hmx hlg
                      go_wp2
                      change Code.wp _ _ _ (Act.mk _ _) _
                      go_loopw [15] (fun v15 W => ∃ q : Nat, q ≤ X.n ∧ v15 = .int .i64 q ∧ Below w1.heap.size w1 W) (fun v15 _ => X.n - (intOf v15).toNat)
                      case atStart => exact ⟨0, Nat.zero_le _, rfl, hb1⟩
                      case round =>
                        clear hb1 hcx0
                        obtain ⟨q, hq, rfl, hb1⟩ := hrel
                        have hcx0 := hcx'.out wr hb1
                        by_cases hql : q < X.n
                        · have hd6 : decide ((q : Int) < (X.n : Int)) = true := decide_eq_true (by omega)
                          have hq4 : (0 : Int) ≤ (q : Int) := by omega
                          have hq2 : (q : Int) < (X.n : Int) := by omega
                          have hq3 : (q : Int) < (G.n : Int) := by have := hlg'.out; omega
                          obtain ⟨bg, og, _, eG, _, _⟩ := hOg.at_ (i := q) (by have := hlg'.out; rcases hOg with ⟨_, _, _⟩ | ⟨_, _, _, _, _, _, h⟩ <;> omega)
                          obtain ⟨bx, ox, _, eX, _, _⟩ := hOx.at_ (i := q) (by rcases hOx with ⟨_, _, _⟩ | ⟨_, _, _, _, _, _, h⟩ <;> omega)
                          have hcgW : ∀ W, Below wr.heap.size wr W → W.cell? ⟨Gb, k, none⟩ = some (.slice (some ⟨bg, og, none⟩) G.n G.c) := fun W hW => by rw [← eG]; exact hcg'.out W (hb1.trans (hW.mono hb1.size))
                          have hcxW : ∀ W, Below wr.heap.size wr W → W.cell? ⟨Lb, k, none⟩ = some (.slice (some ⟨bx, ox, none⟩) X.n X.c) := fun W hW => by rw [← eX]; exact hcx'.out W (hb1.trans (hW.mono hb1.size))
                          have hgq : ∀ W, Below wr.heap.size wr W → W.cell? ⟨bg, og + q, none⟩ = some (.int .i64 (markN k q)) := fun W hW => by
                            have := hmg'.out W (hb1.trans (hW.mono hb1.size)) q hql
                            rwa [rdS_at eG] at this
                          have hxq : ∀ W, Below wr.heap.size wr W → W.cell? ⟨bx, ox + q, none⟩ = some (.int .i64 (markN k q)) := fun W hW => by
                            have := hmx'.out W (hb1.trans (hW.mono hb1.size)) q hql
                            rwa [rdS_at eX] at this
                          have hmk : ∀ W, Below wr.heap.size wr W → Calls Tryz.prog 49 #[.int .i64 k, .int .i64 q] W (Fresh W (.int .i64 (markN k q))) := fun W _ => mark_fresh k q (by omega) (by omega) W
                          rw [eX] at hcx0
                          clear eX eG
                          go_wp2
                          change Code.wp _ _ _ (Act.mk _ _) _
                          refine wp_region_quiet_below (by kernel_rfl) (by kernel_rfl) ?_
                          repeat (first
                          | go_big_quiet_skip
                          | (go_big_quiet_want; first
                              | (go_big_quiet_op; go_big_quiet_on)
                              | ((first
                                  | refine q_go ⟨_, ⟨0, #[]⟩, rfl⟩ (fun K' hk => q_loadS _ _ rfl ⟨Gb, k, none⟩ rfl _ Tryz.underlying22 _ (fun W hW => hcgW W (below_of_grow hW)) hk) ?_
                                  | refine q_go ⟨_, ⟨0, #[]⟩, rfl⟩ (fun K' hk => q_loadS _ _ rfl ⟨Lb, k, none⟩ rfl _ Tryz.underlying22 _ (fun W hW => hcxW W (below_of_grow hW)) hk) ?_
                                  | refine q_go ⟨_, ⟨0, #[]⟩, rfl⟩ (fun K' hk => q_load1 _ _ rfl ⟨bg, og + q, none⟩ rfl _ Tryz.underlying3 _ (fun W hW => hgq W (below_of_grow hW)) hk) ?_
                                  | refine q_go ⟨_, ⟨0, #[]⟩, rfl⟩ (fun K' hk => q_load1 _ _ rfl ⟨bx, ox + q, none⟩ rfl _ Tryz.underlying3 _ (fun W hW => hxq W (below_of_grow hW)) hk) ?_
                                  | refine q_go ⟨_, ⟨0, #[]⟩, rfl⟩ (fun K' hk => q_call2 49 _ _ _ rfl (.int .i64 k) rfl (.int .i64 q) rfl (by kernel_rfl) _ (fresh_grow hmk) hk) ?_); go_big_quiet_op; go_big_quiet_on)))
                          refine wpQuiet_nil ?_
                          intro W7 hW7'
                          have hb2 := hb1.trans ((below_of_grow hW7').mono hb1.size)
                          clear hW7' hcgW hcxW hgq hxq hmk
                          go_wp2
                          go_roundw
                          case rel => exact ⟨q + 1, by omega, by go_num, hb2⟩
                          case measure => simp [intOf]; omega
                        · obtain rfl : q = X.n := by omega
                          have hd6 : decide ((X.n : Int) < (X.n : Int)) = false := by simp
                          go_wp2
                          go_roundw
                          case rel => exact ⟨k + 1, by omega, by go_num, hb1⟩
                          case measure => simp [intOf]; omega
                    · obtain rfl : k = xs.length := by omega
                      have hd5 : decide ((xs.length : Int) < (xs.length : Int)) = false := by simp
                      have hLf := hL.up hSB1 hb1
                      go_wp2
                      go_ret
                      exact ⟨rfl, hLf.below, hLf.fr⟩

end Go.Proofs.YtjichaeegheacaaGreatDoor
