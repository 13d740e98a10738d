/-
  RefW
-/
import Derived.Test.YtjichaeegheacaaGreatDoorFT18

/-
  The document's answer for package flow: Reached: the walk.
-/
namespace Go.Proofs.YtjichaeegheacaaGreatDoor
open Go Go.RowKit

/-- A row of truths: which numbers a set has. -/
def BoolRow (W : World) (g n N : Nat) : Prop := ∃ cur, W.heap[g]? = some (.cells cur 4 (0, 0)) ∧ cur.size = n ∧ ∀ j, j < n → cur[j]? = some (.bool (N.testBit j))
theorem BoolRow.below {W W' : World} {g n N : Nat} (h : BoolRow W g n N) (hb : Below W.heap.size W W') : BoolRow W' g n N := by
  obtain ⟨cur, h1, h2⟩ := h
  exact ⟨cur, blk_below hb h1 (blk_lt h1), h2⟩
theorem BoolRow.cell {W : World} {g n N j : Nat} (h : BoolRow W g n N) (hj : j < n) : W.cell? ⟨g, j, none⟩ = some (.bool (N.testBit j)) ∧ W.frozen? ⟨g, j, none⟩ = false := by
  obtain ⟨cur, h1, h2, h3⟩ := h
  exact ⟨(cell_of_row _ _ _ _ _ _ h1).trans (h3 j hj), frozen_of_row _ _ _ _ _ h1⟩
theorem BoolRow.set {W : World} {g n N M j : Nat} {v : Bool} (h : BoolRow W g n N) (hj : j < n) (h1 : M.testBit j = v) (h2 : ∀ i, i < n → i ≠ j → M.testBit i = N.testBit i) : BoolRow (W.setCell ⟨g, j, none⟩ (.bool v)) g n M := by
  obtain ⟨cur, q1, q2, q3⟩ := h
  refine ⟨_, blk_set q1, by simp [q2], fun i hi => ?_⟩
  rw [Array.getElem?_setIfInBounds]
  by_cases e : j = i
  · subst e; rw [if_pos rfl, if_pos (by omega), h1]
  · rw [if_neg e, q3 i hi, h2 i hi (fun q => e q.symm)]
theorem infoBool : (Tryz.prog.info? 4).map (fun i => (i.zero, i.size, i.bytes)) = some (some (.bool false), 1, 1) := by kernel_rfl
/-- The first k numbers of those where it begins. -/
def BaseTo (frm nt : List Int) (k N : Nat) : Prop := Sm N ∧ ∀ j : Nat, N.testBit j = (decide (j < k) && (frm.contains (j : Int) && !nt.contains (j : Int)))
theorem BaseTo.next {frm nt : List Int} {k N : Nat} (h : BaseTo frm nt k N) (hk : k < 1024) {v : Bool} (hv : (frm.contains (k : Int) && !nt.contains (k : Int)) = v) : ∃ M, BaseTo frm nt (k + 1) M ∧ M.testBit k = v ∧ ∀ i, i ≠ k → M.testBit i = N.testBit i := by
  have h0 := h.2
  cases v with
  | true =>
    have hb := bit_withI h.1 (k : Int)
    have hin : inR (k : Int) = true := (inR_iff _).2 ⟨by omega, by omega⟩
    refine ⟨withI N (k : Int), ⟨withI_sm _ h.1, fun j => ?_⟩, (hb k).2 (.inr ⟨hin, rfl⟩), fun i hi => ?_⟩
    · by_cases e : j = k
      · subst e
        rw [hv, (hb j).2 (.inr ⟨hin, rfl⟩)]; simp
      · have : (withI N (k : Int)).testBit j = N.testBit j := by
          cases hq : N.testBit j with
          | true => exact (hb j).2 (.inl hq)
          | false =>
            cases hw : (withI N (k : Int)).testBit j with
            | false => rfl
            | true => rcases (hb j).1 hw with q | ⟨_, q⟩
                      · rw [hq] at q; cases q
                      · omega
        rw [this, h0 j]
        by_cases q : j < k
        · rw [decide_eq_true q, decide_eq_true (by omega)]
        · rw [decide_eq_false q, decide_eq_false (by omega)]
    · cases hq : N.testBit i with
      | true => exact (hb i).2 (.inl hq)
      | false =>
        cases hw : (withI N (k : Int)).testBit i with
        | false => rfl
        | true => rcases (hb i).1 hw with q | ⟨_, q⟩
                  · rw [hq] at q; cases q
                  · omega
  | false =>
    refine ⟨N, ⟨h.1, fun j => ?_⟩, ?_, fun _ _ => rfl⟩
    · rw [h0 j]
      by_cases e : j = k
      · subst e; rw [hv]; simp
      · by_cases q : j < k
        · rw [decide_eq_true q, decide_eq_true (by omega)]
        · rw [decide_eq_false q, decide_eq_false (by omega)]
    · rw [h0 k]; simp
theorem BaseTo.ref {bs : List Blk} {frm nt : List Int} {N : Nat} (h : BaseTo frm nt bs.length N) : RefN bs frm nt N := by
  have h0 := h.2
  refine ⟨h.1, fun j hj => ?_, fun j hj => ?_, fun j h1 h2 h3 => ?_⟩
  · rw [h0 j, Bool.and_eq_true, decide_eq_true_iff] at hj
    exact hj.1
  · rw [h0 j, Bool.and_eq_true, Bool.and_eq_true, decide_eq_true_iff] at hj
    obtain ⟨q1, q2, q3⟩ := hj
    exact .base (List.contains_iff_mem.1 q2) (fun q => by rw [List.contains_iff_mem.2 q] at q3; cases q3) (by omega) (by omega)
  · rw [h0 j, decide_eq_true h1, List.contains_iff_mem.2 h2]
    cases hq : nt.contains (j : Int) with
    | false => rfl
    | true => exact absurd (List.contains_iff_mem.1 hq) h3

set_option maxRecDepth 100000 in
set_option maxHeartbeats 1000000 in
theorem Reached10_no (P : Value) (A B C : Option Addr) (c cb cc : Nat) (bs : List Blk) (frm nt : List Int) (w : World) (hr : RF w A bs) (hl : bs.length ≤ 1000) (hcl : closedB bs = false) :
    Calls Tryz.prog 26 #[.agg #[P, .slice A bs.length c], .slice B frm.length cb, .slice C nt.length cc] w (Fresh w (.slice none 0 0)) := by
  have hb0 := (Below.refl w.heap.size w).alloc (Nat.le_refl _) (.cells #[P, .slice A bs.length c] 25)
  have hs := blk_new w (.cells #[P, .slice A bs.length c] 25)
  have q := Closed10_any P A c bs _ (hr.below hb0) hl
  rw [hcl] at q
  go_enter Tryz.func26, Tryz.ntmps26
  go_wp2_with (refine wpList_load_row rfl _ _ rfl _ rfl _ _ _ _ hs Tryz.underlying25 rfl (by kernel_rfl) ?_)
  refine q.mono ?_
  rintro e W1 ⟨rfl, hb1⟩
  go_wp2
  go_ret
  exact ⟨rfl, hb0.trans (hb1.mono hb0.size)⟩

set_option maxRecDepth 100000 in
set_option maxHeartbeats 4000000 in
theorem Reached10_yes (P : Value) (A B C : Option Addr) (c cb cc : Nat) (bs : List Blk) (frm nt : List Int) (w : World) (hr : RF w A bs) (hf : RI w B frm) (hn : RI w C nt) (hcl : closedB bs = true) :
    Calls Tryz.prog 26 #[.agg #[P, .slice A bs.length c], .slice B frm.length cb, .slice C nt.length cc] w fun e w' => ∃ (R : Nat) (Al : Option Addr) (cl : Nat), RSet bs frm nt R ∧ e = .returned (.slice Al (upTo R 1024).length cl) ∧ RI w' Al (upTo R 1024) ∧ Below w.heap.size w w' := by
  have hc := closed_cl hr.ok hcl
  have hle := hc.le
  have hpos := hc.pos
  have hb0 := (Below.refl w.heap.size w).alloc (Nat.le_refl _) (.cells #[P, .slice A bs.length c] 25)
  have hs := blk_new w (.cells #[P, .slice A bs.length c] 25)
  have q := Closed10_any P A c bs _ (hr.below hb0) (by omega)
  rw [hcl] at q
  obtain ⟨i0, hi, hz0, hz1, hz2⟩ := info_parts infoBool
  go_enter Tryz.func26, Tryz.ntmps26
  go_wp2_with (refine wpList_load_row rfl _ _ rfl _ rfl _ _ _ _ hs Tryz.underlying25 rfl (by kernel_rfl) ?_)
  refine q.mono ?_
  rintro e W1 ⟨rfl, hb1⟩
  have hs1 := blk_below hb1 hs (blk_lt hs)
  have hB1 := hb0.trans (hb1.mono hb0.size)
  have d1 : W1.cell? ⟨w.heap.size, 1, none⟩ = some (.slice A bs.length c) := (cell_of_row _ _ 1 _ _ _ hs1).trans rfl
  clear q hb1 hs hb0
  go_wp2_with (refine wpList_make_full _ rfl _ _ 79 rfl W1.heap.size 4 i0 (.bool false) 1 Tryz.underlying79 hi hz0 hz1 _ _ _ _ bs.length rfl rfl rfl rfl (by rw [hz2]; omega) (by unfold maxLen; omega) (Nat.le_refl _) ?_; intro W2 hown2 hgr2)
  have hb2 : Below W1.heap.size W1 W2 := (Below.refl _ _).grown hgr2 (Nat.le_refl _) (fun k e => by cases e)
  obtain ⟨g0, cap0, cur, eg, _, hgb, _, _, hgs, htk⟩ := own_some hown2 hpos
  simp only [Value.slice.injEq, Option.some.injEq, Addr.mk.injEq, and_true, true_and] at eg
  obtain ⟨rfl, rfl⟩ := eg
  have hrow : BoolRow W2 W1.heap.size bs.length 0 := by
    refine ⟨cur, hgb, by omega, fun j hj => ?_⟩
    have h2 := congrArg (fun l : List Value => l[j]?) htk
    simp only [Nat.mul_one, List.getElem?_take, if_pos hj] at h2
    rw [Array.getElem?_toList] at h2
    rw [h2, Nat.zero_testBit]
    simp [madeCells, hj, Value.cells, Nat.mod_one]
  generalize hIb : W1.heap.size = Ib at *
  have hIb' := Lib.hid hIb
  clear hown2 hgr2 hgb hgs htk hIb
  have hBI : w.heap.size ≤ Ib := by rw [← hIb'.out]; exact hB1.size
  change Code.wp _ _ _ (Act.mk _ _) _
  go_loopw [8] (fun v8 W => ∃ k N : Nat, k ≤ bs.length ∧ v8 = .int .i64 k ∧ BaseTo frm nt k N ∧ BoolRow W Ib bs.length N ∧ Below Ib W1 W) (fun v8 _ => bs.length - (intOf v8).toNat)
  case atStart => exact ⟨0, 0, Nat.zero_le _, rfl, ⟨sm_zero, fun j => by simp⟩, hrow, hb2⟩
  case round =>
    clear hrow hb2 d1
    obtain ⟨k, N, hk, rfl, hN, hrow, hb⟩ := hrel
    have hs2 : wr.heap[w.heap.size]? = some (.cells #[P, .slice A bs.length c] 25 (0, 0)) := (hb.block _ (by have := blk_lt hs1; have := hIb'.out; omega)).trans hs1
    have hbw : Below w.heap.size w wr := hB1.trans (hb.mono hBI)
    have d1 : wr.cell? ⟨w.heap.size, 1, none⟩ = some (.slice A bs.length c) := (cell_of_row _ _ 1 _ _ _ hs2).trans rfl
    by_cases hkl : k < bs.length
    · have hd : decide ((k : Int) < (bs.length : Int)) = true := decide_eq_true (by omega)
      have hk2 : (k : Int) < (bs.length : Int) := by omega
      have hk4 : (0 : Int) ≤ (k : Int) := by omega
      have hh1 := has10_any B cb frm (k : Int) wr (hf.below hbw)
      have hh2 := has10_any C cc nt (k : Int) wr (hn.below hbw)
      obtain ⟨hc1, hc2⟩ := hrow.cell hkl
      have hnx := fun v hv => hN.next (by omega) (v := v) hv
      have hnx' := Lib.hid hnx
      clear hnx
      cases h1 : frm.contains (k : Int)
      · rw [h1] at hh1
        obtain ⟨M, hM, m1, m2⟩ := hnx'.out false (by rw [h1]; rfl)
        have hr2 := hrow.set hkl m1 (fun i _ hi => m2 i hi)
        have hbs := hb.setCell (p := ⟨Ib, k, none⟩) (Nat.le_refl _) (.bool false)
        clear m1 m2 h1
        go_wp2_with fail
        refine hh1.mono ?_
        rintro e W3 ⟨rfl, rfl⟩
        go_wp2
        go_roundw
        case rel => exact ⟨k + 1, M, by omega, by go_num, hM, hr2, hbs⟩
        case measure => simp [intOf]; omega
      · rw [h1] at hh1
        cases h2 : nt.contains (k : Int)
        · rw [h2] at hh2
          obtain ⟨M, hM, m1, m2⟩ := hnx'.out true (by rw [h1, h2]; rfl)
          have hr2 := hrow.set hkl m1 (fun i _ hi => m2 i hi)
          have hbs := hb.setCell (p := ⟨Ib, k, none⟩) (Nat.le_refl _) (.bool true)
          clear m1 m2 h1 h2
          go_wp2_with fail
          refine hh1.mono ?_
          rintro e W3 ⟨rfl, rfl⟩
          go_wp2_with fail
          refine hh2.mono ?_
          rintro e W4 ⟨rfl, rfl⟩
          go_wp2
          go_roundw
          case rel => exact ⟨k + 1, M, by omega, by go_num, hM, hr2, hbs⟩
          case measure => simp [intOf]; omega
        · rw [h2] at hh2
          obtain ⟨M, hM, m1, m2⟩ := hnx'.out false (by rw [h1, h2]; rfl)
          have hr2 := hrow.set hkl m1 (fun i _ hi => m2 i hi)
          have hbs := hb.setCell (p := ⟨Ib, k, none⟩) (Nat.le_refl _) (.bool false)
          clear m1 m2 h1 h2
          go_wp2_with fail
          refine hh1.mono ?_
          rintro e W3 ⟨rfl, rfl⟩
          go_wp2_with fail
          refine hh2.mono ?_
          rintro e W4 ⟨rfl, rfl⟩
          go_wp2
          go_roundw
          case rel => exact ⟨k + 1, M, by omega, by go_num, hM, hr2, hbs⟩
          case measure => simp [intOf]; omega
    · obtain rfl : k = bs.length := by omega
      have hd : decide ((bs.length : Int) < (bs.length : Int)) = false := by simp
      have hRef := hN.ref (bs := bs)
      go_wp2_with (refine wpList_load_row rfl _ _ rfl _ rfl _ _ _ _ hs2 Tryz.underlying25 rfl (by kernel_rfl) ?_)
      refine (all10_any P A c bs wr (hr.below hbw) (by omega)).mono ?_
      rintro e W5 ⟨v, rfl, ho, hb5⟩
      have hel := edgesTo_len bs bs.length
      rw [show edgesTo bs bs.length = edgesOf bs from rfl] at hel
      obtain ⟨A1, c1, rfl, _, hE⟩ := own_RE ho (by omega)
      have hrow5 := hrow.below hb5
      have hs5 := blk_below hb5 hs2 (blk_lt hs2)
      have hIl : Ib < wr.heap.size := by obtain ⟨cur, h1, _⟩ := hrow; exact blk_lt h1
      have hB5 := hbw.trans (hb5.mono hbw.size)
      -- the edges lie above the row of truths
      have hEs : ∀ i, i < (edgesOf bs).length → ∃ b off, A1 = some ⟨b, off, none⟩ ∧ wr.heap.size ≤ b ∧ b < W5.heap.size ∧ W5.cell? ⟨b, off + i * 3, none⟩ = some (.int .i64 (gE (edgesOf bs) i).f) ∧ W5.cell? ⟨b, off + i * 3 + 2, none⟩ = some (.int .i64 (gE (edgesOf bs) i).t) := fun i hi => by
        obtain ⟨b, off, e1, e2, e3⟩ := hE.rd i hi
        obtain ⟨h1, h2, h3⟩ := e3 W5 (Below.refl _ _)
        refine ⟨b, off, e1, ?_, e2, h1, h3⟩
        subst e1
        exact own_base ho b rfl
      clear hE ho hrow hb5 hbw hb hs2 d1 hN
      have hemem := fun {i : Nat} (hi : i < (edgesOf bs).length) => gE_mem hi
      obtain ⟨w5, rfl⟩ : ∃ w5 : World, w5 = W5 := ⟨_, rfl⟩
      go_wp2
      change Code.wp _ _ _ (Act.mk _ _) _
      go_loopw [10] (fun v10 W => ∃ r : Nat, r ≤ bs.length ∧ v10 = .int .i64 r ∧ BoolRow W Ib bs.length (itE (edgesOf bs) nt r N) ∧ (∀ k, k ≠ Ib → W.heap[k]? = w5.heap[k]?) ∧ Below Ib w5 W) (fun v10 _ => bs.length - (intOf v10).toNat)
      case atStart => exact ⟨0, Nat.zero_le _, rfl, hrow5, fun _ _ => rfl, Below.refl _ _⟩
      case round =>
        clear hrow5
        obtain ⟨r, hrn, rfl, hrow, hsame, hb⟩ := hrel
        have hs6 := (hsame w.heap.size (by have := blk_lt hs1; have := hIb'.out; omega)).trans hs5
        have d1 : wr.cell? ⟨w.heap.size, 1, none⟩ = some (.slice A bs.length c) := (cell_of_row _ _ 1 _ _ _ hs6).trans rfl
        have hRr := (hRef.iter hc r).1
        by_cases hrl : r < bs.length
        · have hd2 : decide ((r : Int) < (bs.length : Int)) = true := decide_eq_true (by omega)
          have hit := Lib.hid (show itE (edgesOf bs) nt (r + 1) N = roundE (edgesOf bs) nt (itE (edgesOf bs) nt r N) from rfl)
          generalize itE (edgesOf bs) nt r N = M at *
          go_wp2
          change Code.wp _ _ _ (Act.mk _ _) _
          go_loopw [11] (fun v11 W => ∃ i : Nat, i ≤ (edgesOf bs).length ∧ v11 = .int .i64 i ∧ BoolRow W Ib bs.length (roundE ((edgesOf bs).take i) nt M) ∧ (∀ k, k ≠ Ib → W.heap[k]? = w5.heap[k]?) ∧ Below Ib w5 W) (fun v11 _ => (edgesOf bs).length - (intOf v11).toNat)
          case atStart => exact ⟨0, Nat.zero_le _, rfl, hrow, hsame, hb⟩
          case round =>
            clear hrow hsame hb hs6 d1
            obtain ⟨i, hie, rfl, hrow, hsame, hb⟩ := hrel
            by_cases hil : i < (edgesOf bs).length
            · have hd3 : decide ((i : Int) < ((edgesOf bs).length : Int)) = true := decide_eq_true (by omega)
              have hi2 : (i : Int) < ((edgesOf bs).length : Int) := by omega
              have hi4 : (0 : Int) ≤ (i : Int) := by omega
              obtain ⟨be, oe, eA, hb1, hb2, h1, h3⟩ := hEs i hil
              have hsb : wr.heap[be]? = w5.heap[be]? := hsame be (by omega)
              have h1' := (World.cell?_of_block (a := ⟨be, oe + i * 3, none⟩) hsb).trans h1
              have h3' := (World.cell?_of_block (a := ⟨be, oe + i * 3 + 2, none⟩) hsb).trans h3
              obtain ⟨o1, s1⟩ := edge_su (hemem hil)
              have o2 := hc.go _ o1 _ s1
              have hRM := (RefN.fold hc ((edgesOf bs).take i) (fun x hx => List.mem_of_mem_take hx) hRr).1
              have hfs : roundE ((edgesOf bs).take (i + 1)) nt M = stepE nt (roundE ((edgesOf bs).take i) nt M) (gE (edgesOf bs) i) := by
                unfold roundE
                rw [List.take_succ_eq_append_getElem hil, List.foldl_append, gE_eq hil]; rfl
              obtain ⟨kf, hkf, hkfl⟩ : ∃ kf : Nat, (gE (edgesOf bs) i).f = (kf : Int) ∧ kf < bs.length := ⟨(gE (edgesOf bs) i).f.toNat, by have := o1.1; omega, by have := o1.1; have := o1.2; omega⟩
              obtain ⟨kt, hkt, hktl⟩ : ∃ kt : Nat, (gE (edgesOf bs) i).t = (kt : Int) ∧ kt < bs.length := ⟨(gE (edgesOf bs) i).t.toNat, by have := o2.1; omega, by have := o2.1; have := o2.2; omega⟩
              unfold stepE at hfs
              rw [hkf, hkt, hasN_bit (by omega)] at hfs
              rw [hkf] at h1'
              rw [hkt] at h3'
              have hBw := (hB5.trans (hb.mono hBI))
              have hh := has10_any C cc nt (kt : Int) wr (hn.below hBw)
              have hfs' := Lib.hid hfs
              have hel' : (edgesOf bs).length ≤ 2 * bs.length := hel
              clear hfs h1 h3 hkf hkt o1 o2 s1
              generalize roundE ((edgesOf bs).take i) nt M = K at *
              obtain ⟨hc1, hc2⟩ := hrow.cell hkfl
              obtain ⟨hc3, hc4⟩ := hrow.cell hktl
              have hkf4 : (0 : Int) ≤ (kf : Int) := by omega
              have hkf2 : (kf : Int) < (bs.length : Int) := by omega
              have hkt4 : (0 : Int) ≤ (kt : Int) := by omega
              have hkt2 : (kt : Int) < (bs.length : Int) := by omega
              cases hbit : K.testBit kf
              · rw [hbit] at hc1
                have hfn := hfs'.out
                rw [hbit] at hfn
                have hfn2 : roundE ((edgesOf bs).take (i + 1)) nt M = K := hfn
                rw [← hfn2] at hrow
                subst eA
                clear hfn hfn2 hbit
                go_wp2
                go_roundw
                case rel => exact ⟨i + 1, by omega, by go_num, hrow, hsame, hb⟩
                case measure => simp [intOf]; omega
              · rw [hbit] at hc1
                cases hnt : nt.contains (kt : Int)
                · rw [hnt] at hh
                  have hfn := hfs'.out
                  rw [hbit, hnt] at hfn
                  have hfn2 : roundE ((edgesOf bs).take (i + 1)) nt M = withI K (kt : Int) := hfn
                  have hbw := bit_withI hRM.sm (kt : Int)
                  have hr2 := hrow.set (M := withI K (kt : Int)) (v := true) hktl ((hbw kt).2 (.inr ⟨(inR_iff _).2 ⟨by omega, by omega⟩, rfl⟩)) (fun j hj hjk => by
                    cases hq : K.testBit j with
                    | true => exact (hbw j).2 (.inl hq)
                    | false =>
                      cases hw : (withI K (kt : Int)).testBit j with
                      | false => rfl
                      | true => rcases (hbw j).1 hw with q | ⟨_, q⟩
                                · rw [hq] at q; cases q
                                · omega)
                  rw [← hfn2] at hr2
                  have hsame2 : ∀ k, k ≠ Ib → (wr.setCell ⟨Ib, kt, none⟩ (.bool true)).heap[k]? = w5.heap[k]? := fun k hk => (blk_far (p := ⟨Ib, kt, none⟩) hk).trans (hsame k hk)
                  have hbs := hb.setCell (p := ⟨Ib, kt, none⟩) (Nat.le_refl _) (.bool true)
                  subst eA
                  clear hfn hfn2 hbit hnt hrow hbw
                  go_wp2_with fail
                  refine hh.mono ?_
                  rintro e W3 ⟨rfl, rfl⟩
                  go_wp2
                  go_roundw
                  case rel => exact ⟨i + 1, by omega, by go_num, hr2, hsame2, hbs⟩
                  case measure => simp [intOf]; omega
                · rw [hnt] at hh
                  have hfn := hfs'.out
                  rw [hbit, hnt] at hfn
                  have hfn2 : roundE ((edgesOf bs).take (i + 1)) nt M = K := hfn
                  rw [← hfn2] at hrow
                  subst eA
                  clear hfn hfn2 hbit hnt
                  go_wp2_with fail
                  refine hh.mono ?_
                  rintro e W3 ⟨rfl, rfl⟩
                  go_wp2
                  go_roundw
                  case rel => exact ⟨i + 1, by omega, by go_num, hrow, hsame, hb⟩
                  case measure => simp [intOf]; omega
            · obtain rfl : i = (edgesOf bs).length := by omega
              have hd3 : decide (((edgesOf bs).length : Int) < ((edgesOf bs).length : Int)) = false := by simp
              rw [List.take_length, ← hit.out] at hrow
              have hrow' := Lib.hid hrow
              clear hrow
              go_wp2
              go_roundw
              case rel => exact ⟨r + 1, by omega, by go_num, hrow'.out, hsame, hb⟩
              case measure => simp [intOf]; omega
        · obtain rfl : r = bs.length := by omega
          have hd2 : decide ((bs.length : Int) < (bs.length : Int)) = false := by simp
          have hRS := hRef.done hc
          have hlt := hRr.lt
          generalize itE (edgesOf bs) nt bs.length N = R at *
          have hup : upTo R 1024 = upTo R bs.length := upTo_high hlt (by omega)
          have hup' := Lib.hid hup
          have hBw := hB5.trans (hb.mono hBI)
          have hIl2 : Ib < wr.heap.size := by obtain ⟨cur, h1, _⟩ := hrow; exact blk_lt h1
          clear hup hsame hb hRr hlt hRef hs6 hEs
          obtain ⟨w6, rfl⟩ : ∃ w6 : World, w6 = wr := ⟨_, rfl⟩
          go_wp2
          change Code.wp _ _ _ (Act.mk _ _) _
          go_loopw [12, 13] (fun v12 v13 W => ∃ k : Nat, k ≤ bs.length ∧ v13 = .int .i64 k ∧ W.ownsRow w6.heap.size 3 1 v12 (upTo R k).length ((upTo R k).map (Value.int .i64)) ∧ Below w6.heap.size w6 W) (fun _ v13 _ => bs.length - (intOf v13).toNat)
          case atStart => exact ⟨0, Nat.zero_le _, rfl, World.ownsRow_nil _ _ _ _, Below.refl _ _⟩
          case round =>
            obtain ⟨k, hk, rfl, hown, hb⟩ := hrel
            by_cases hkl : k < bs.length
            · have hd3 : decide ((k : Int) < (bs.length : Int)) = true := decide_eq_true (by omega)
              have hk2 : (k : Int) < (bs.length : Int) := by omega
              have hk4 : (0 : Int) ≤ (k : Int) := by omega
              obtain ⟨hc1, hc2⟩ := (hrow.below hb).cell hkl
              have hus := upTo_succ R k
              have hul := upTo_len R k
              cases hbit : R.testBit k
              · rw [hbit] at hc1 hus
                have hus2 : upTo R (k + 1) = upTo R k := by rw [hus]; rfl
                rw [← hus2] at hown
                clear hus hus2 hbit
                go_wp2
                go_roundw
                case rel => exact ⟨k + 1, by omega, by go_num, hown, hb⟩
                case measure => simp [intOf]; omega
              · rw [hbit] at hc1 hus
                have hus2 : upTo R (k + 1) = upTo R k ++ [(k : Int)] := by rw [hus]; rfl
                have hus' := Lib.hid hus2
                clear hus hus2 hbit
                generalize upTo R k = us at *
                have n6 := blk_new wr (.cells #[.int .i64 (k : Int)] 3)
                have hb6 := (Below.refl wr.heap.size wr).alloc (Nat.le_refl _) (.cells #[.int .i64 (k : Int)] 3)
                have hown6 := own_below hown hb6
                have hbb := hb.trans (hb6.mono hb.size)
                have hS6 := hbb.size
                go_wp2_with (refine wpList_app1 rfl _ _ rfl w6.heap.size _ rfl us hown6 _ _ (k : Int) rfl n6 hS6 (by omega) ?_; intro v9 W8 hown8 hg8 _)
                have hB8 := grown_up hown6 hbb hg8 hS6
                rw [← hus'.out] at hown8
                go_roundw
                case rel => exact ⟨k + 1, by omega, by go_num, hown8, hB8⟩
                case measure => simp [intOf]; omega
            · obtain rfl : k = bs.length := by omega
              have hd3 : decide ((bs.length : Int) < (bs.length : Int)) = false := by simp
              rw [← hup'.out] at hown
              obtain ⟨Al, cl, rfl, _, hRl⟩ := own_RI hown (upTo_i64 (Nat.le_refl _)) (by have := upTo_len R 1024; omega)
              go_wp2
              go_ret
              exact ⟨R, Al, cl, hRS, rfl, hRl, hBw.trans (hb.mono hBw.size)⟩

end Go.Proofs.YtjichaeegheacaaGreatDoor
