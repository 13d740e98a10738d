/-
  Apart
-/
import Derived.Test.YtjichaeegheacaaGreatDoorFT10
import Derived.Test.YtjichaeegheacaaGreatDoorFT11
import Derived.Test.YtjichaeegheacaaGreatDoorFT12

/-
  intarsiakit.ApartInts.
-/
namespace Go.Proofs.YtjichaeegheacaaGreatDoor
open Go Go.RowKit

/-- A bag: of all kinds none, but of ints v. -/
def bagC (v : Value) : Array Value := #[.slice none 0 0, .slice none 0 0, v, .slice none 0 0, .slice none 0 0, .slice none 0 0, .slice none 0 0, .slice none 0 0, .slice none 0 0, .slice none 0 0, .slice none 0 0, .slice none 0 0, .slice none 0 0, .slice none 0 0, .slice none 0 0, .slice none 0 0, .slice none 0 0]
theorem bagC_set (v u : Value) : (bagC v).setIfInBounds 2 u = bagC u := rfl

set_option maxRecDepth 100000 in
set_option maxHeartbeats 1000000 in
theorem putInts_any (Bg : Nat) (x : SV) (v : Value) (k : Nat) (vs : List Value) (w : World) (hk : k ≤ 1000) (hbag : w.heap[Bg]? = some (.cells (bagC v) 100 (0, 0))) (hown : w.ownsRow Bg 22 1 v k vs) :
    Calls Tryz.prog 69 #[.pointer (some ⟨Bg, 0, none⟩), .slice x.A x.n x.c] w fun e w' => (∃ v, e = .returned v) ∧ ∃ u, w'.heap[Bg]? = some (.cells (bagC u) 100 (0, 0)) ∧ w'.ownsRow Bg 22 1 u (k + 1) (vs ++ [x.val]) ∧ Below Bg w w' := by
  have hlt := blk_lt hbag
  have c2 : w.cell? ⟨Bg, 2, none⟩ = some v := (cell_of_row _ _ 2 _ _ _ hbag).trans rfl
  obtain ⟨A2, n2, hv⟩ := own_form hown
  subst hv
  have n7 := blk_new w (.cells #[.slice x.A x.n x.c] 22)
  have hb7 := (Below.refl w.heap.size w).alloc (Nat.le_refl _) (.cells #[.slice x.A x.n x.c] 22)
  have hown7 := own_below hown hb7
  have hbag7 := blk_below hb7 hbag hlt
  have hS7 : Bg ≤ (w.alloc (.cells #[.slice x.A x.n x.c] 22)).heap.size := by simp; omega
  have key : ∀ v' w', w'.ownsRow Bg 22 1 v' (k + 1) (vs ++ [x.val]) → (w.alloc (.cells #[.slice x.A x.n x.c] 22)).grownBy w' (Value.slice A2 k n2).ownBlock → (∃ v0, w'.cell? ⟨Bg, 2, none⟩ = some v0) ∧ w'.frozen? ⟨Bg, 2, none⟩ = false ∧ (w'.setCell ⟨Bg, 2, none⟩ v').heap[Bg]? = some (.cells (bagC v') 100 (0, 0)) ∧ (w'.setCell ⟨Bg, 2, none⟩ v').ownsRow Bg 22 1 v' (k + 1) (vs ++ [x.val]) ∧ Below Bg w (w'.setCell ⟨Bg, 2, none⟩ v') := fun v' w' h1 h2 => by
    have hbag' : w'.heap[Bg]? = some (.cells (bagC (.slice A2 k n2)) 100 (0, 0)) := by
      refine (h2.block Bg (by simp; omega) (fun e => ?_)).trans hbag7
      rcases hown7.2 with ⟨q, _⟩ | ⟨g, cap, cur, q, _, hb, _⟩
      · rw [q] at e; simp [Value.ownBlock] at e
      · rw [q] at e
        simp [Value.ownBlock] at e
        subst e
        rw [hbag7] at hb
        cases hb
    have hB := (Below.refl Bg w).trans ((hb7.mono (Nat.le_of_lt hlt)).trans ((Below.refl Bg _).grown h2 hS7 fun b hb => (hown7.lt b hb).1))
    refine ⟨⟨.slice A2 k n2, (cell_of_row _ _ 2 _ _ _ hbag').trans rfl⟩, frozen_of_row _ _ _ _ _ hbag', blk_set hbag', ?_, hB.setCell (p := ⟨Bg, 2, none⟩) (Nat.le_refl _) _⟩
    refine ⟨h1.1, ?_⟩
    rcases h1.2 with q | ⟨g, cap, cur, e1, e2, e3, e4⟩
    · exact .inl q
    · refine .inr ⟨g, cap, cur, e1, e2, (blk_far (p := ⟨Bg, 2, none⟩) ?_).trans e3, e4⟩
      rintro rfl
      rw [hbag'] at e3
      cases e3
  have key' := Lib.hid key
  clear key hbag7
  go_enter Tryz.func69, Tryz.ntmps69
  go_wp2_with (refine wpList_appRow rfl _ _ 41 22 1 24 _ rfl Tryz.underlying41 infoSl rfl (by decide) (by decide) Bg _ rfl k vs hown7 (by omega) _ _ #[.slice x.A x.n x.c] rfl n7 rfl (by simp [slice_one]) hS7 ?_; intro v9 W8 hown8 hg8; obtain ⟨A9, c9, rfl⟩ := own_form hown8; obtain ⟨⟨v0, hv0⟩, hfz, hrest⟩ := key'.out _ W8 hown8 hg8; have hrest' := Lib.hid hrest; clear hrest hown8 hg8)
  obtain ⟨r1, r2, r3⟩ := hrest'.out
  clear hrest'
  go_end0
  exact ⟨⟨_, rfl⟩, _, r1, r2, r3⟩

set_option maxRecDepth 100000 in
set_option maxHeartbeats 4000000 in
theorem apart_any (Bg Lb cl B : Nat) (cs : Array Value) (xs : List SV) (w : World) (hpos : 0 < xs.length) (hm : xs.length ≤ 100) (hbag : w.heap[Bg]? = some (.cells (bagC (.slice (some ⟨Lb, 0, none⟩) xs.length cl)) 100 (0, 0)))
    (hrow : w.heap[Lb]? = some (.cells cs 22 (0, 0))) (hown : ∀ k, k < xs.length → Ow w (gS xs k)) (hcs : ∀ k, k < xs.length → cs[k]? = some (gS xs k).val) (hA : LA B xs) (hn : ∀ k, k < xs.length → (gS xs k).n ≤ 1024) (hB : B ≤ w.heap.size) :
    Calls Tryz.prog 70 #[.pointer (some ⟨Bg, 0, none⟩)] w fun e w' => e = .returned (.bool true) ∧ Below B w w' := by
  have hne : ∀ k, k < xs.length → (gS xs k).bk ≠ some Bg := fun k hk e => by
    obtain ⟨cur, h⟩ := (hown k hk).int e
    rw [hbag] at h
    cases h
  go_enter Tryz.func70, Tryz.ntmps70
  have hfl : ∀ W, Below w.heap.size w W → Calls Tryz.prog 91 #[.slice (some ⟨Lb, 0, none⟩) xs.length cl] W fun e W' => e = .returned (.bool true) ∧ Below B W W' ∧ ∀ b, b < W.heap.size → (∀ k, k < xs.length → (gS xs k).bk ≠ some b) → W'.heap[b]? = W.heap[b]? := fun W hW =>
    flatInts_any Lb cl B cs xs W hpos hm ⟨blk_below hW hrow (blk_lt hrow), fun k hk => (hown k hk).same fun b _ hlt => hW.block b hlt, Below.refl _ _, fun _ _ _ => rfl⟩ hcs hA hn (Nat.le_trans hB hW.size)
  generalize hv : Value.slice (some ⟨Lb, 0, none⟩) xs.length cl = v at *
  have hb0 := Below.refl w.heap.size w
  have hbag0 := hbag
  have f0 := (cell_of_row _ _ 0 _ _ _ hbag0).trans (show (bagC v)[0]? = some (Value.slice none 0 0) from rfl)
  go_wp2_with fail
  refine (flatLimbs_nil _).mono ?_
  rintro e W1 ⟨rfl, hB1⟩
  have hbag1 := blk_below hB1 hbag0 (blk_lt hbag0)
  have hb1 := hb0.trans (hB1.mono hb0.size)
  clear f0 hbag0 hb0 hB1
  have f1 := (cell_of_row _ _ 1 _ _ _ hbag1).trans (show (bagC v)[1]? = some (Value.slice none 0 0) from rfl)
  go_wp2_with fail
  refine (flatWords_nil _).mono ?_
  rintro e W2 ⟨rfl, hB2⟩
  have hbag2 := blk_below hB2 hbag1 (blk_lt hbag1)
  have hb2 := hb1.trans (hB2.mono hb1.size)
  clear f1 hbag1 hb1 hB2
  have f2 := (cell_of_row _ _ 2 _ _ _ hbag2).trans (show (bagC v)[2]? = some (v) from rfl)
  go_wp2_with fail
  refine (hfl _ hb2).mono ?_
  rintro e W3 ⟨rfl, hB3, hfr⟩
  have hbag3 := (hfr Bg (blk_lt hbag2) hne).trans hbag2
  have hb3 := (hb2.mono hB).trans hB3
  clear hfl hfr f2 hbag2 hb2 hB3
  have f3 := (cell_of_row _ _ 3 _ _ _ hbag3).trans (show (bagC v)[3]? = some (Value.slice none 0 0) from rfl)
  go_wp2_with fail
  refine (flatLongs_nil _).mono ?_
  rintro e W4 ⟨rfl, hB4⟩
  have hbag4 := blk_below hB4 hbag3 (blk_lt hbag3)
  have hb4 := hb3.trans (hB4.mono (Nat.le_trans hB hb3.size))
  clear f3 hbag3 hb3 hB4
  have f4 := (cell_of_row _ _ 4 _ _ _ hbag4).trans (show (bagC v)[4]? = some (Value.slice none 0 0) from rfl)
  go_wp2_with fail
  refine (flatTexts_nil _).mono ?_
  rintro e W5 ⟨rfl, hB5⟩
  have hbag5 := blk_below hB5 hbag4 (blk_lt hbag4)
  have hb5 := hb4.trans (hB5.mono (Nat.le_trans hB hb4.size))
  clear f4 hbag4 hb4 hB5
  have f5 := (cell_of_row _ _ 5 _ _ _ hbag5).trans (show (bagC v)[5]? = some (Value.slice none 0 0) from rfl)
  go_wp2_with fail
  refine (flatBytes_nil _).mono ?_
  rintro e W6 ⟨rfl, hB6⟩
  have hbag6 := blk_below hB6 hbag5 (blk_lt hbag5)
  have hb6 := hb5.trans (hB6.mono (Nat.le_trans hB hb5.size))
  clear f5 hbag5 hb5 hB6
  have f6 := (cell_of_row _ _ 6 _ _ _ hbag6).trans (show (bagC v)[6]? = some (Value.slice none 0 0) from rfl)
  go_wp2_with fail
  refine (flatTruths_nil _).mono ?_
  rintro e W7 ⟨rfl, hB7⟩
  have hbag7 := blk_below hB7 hbag6 (blk_lt hbag6)
  have hb7 := hb6.trans (hB7.mono (Nat.le_trans hB hb6.size))
  clear f6 hbag6 hb6 hB7
  have f7 := (cell_of_row _ _ 7 _ _ _ hbag7).trans (show (bagC v)[7]? = some (Value.slice none 0 0) from rfl)
  go_wp2_with fail
  refine (flatRow_nil _).mono ?_
  rintro e W8 ⟨rfl, hB8⟩
  have hbag8 := blk_below hB8 hbag7 (blk_lt hbag7)
  have hb8 := hb7.trans (hB8.mono (Nat.le_trans hB hb7.size))
  clear f7 hbag7 hb7 hB8
  have f8 := (cell_of_row _ _ 8 _ _ _ hbag8).trans (show (bagC v)[8]? = some (Value.slice none 0 0) from rfl)
  go_wp2_with fail
  refine (flatBlocks_nil _).mono ?_
  rintro e W9 ⟨rfl, hB9⟩
  have hbag9 := blk_below hB9 hbag8 (blk_lt hbag8)
  have hb9 := hb8.trans (hB9.mono (Nat.le_trans hB hb8.size))
  clear f8 hbag8 hb8 hB9
  have f9 := (cell_of_row _ _ 9 _ _ _ hbag9).trans (show (bagC v)[9]? = some (Value.slice none 0 0) from rfl)
  go_wp2_with fail
  refine (flatFuncs_nil _).mono ?_
  rintro e W10 ⟨rfl, hB10⟩
  have hbag10 := blk_below hB10 hbag9 (blk_lt hbag9)
  have hb10 := hb9.trans (hB10.mono (Nat.le_trans hB hb9.size))
  clear f9 hbag9 hb9 hB10
  have f10 := (cell_of_row _ _ 10 _ _ _ hbag10).trans (show (bagC v)[10]? = some (Value.slice none 0 0) from rfl)
  go_wp2_with fail
  refine (flatTargets_nil _).mono ?_
  rintro e W11 ⟨rfl, hB11⟩
  have hbag11 := blk_below hB11 hbag10 (blk_lt hbag10)
  have hb11 := hb10.trans (hB11.mono (Nat.le_trans hB hb10.size))
  clear f10 hbag10 hb10 hB11
  have f11 := (cell_of_row _ _ 11 _ _ _ hbag11).trans (show (bagC v)[11]? = some (Value.slice none 0 0) from rfl)
  go_wp2_with fail
  refine (flatMachines_nil _).mono ?_
  rintro e W12 ⟨rfl, hB12⟩
  have hbag12 := blk_below hB12 hbag11 (blk_lt hbag11)
  have hb12 := hb11.trans (hB12.mono (Nat.le_trans hB hb11.size))
  clear f11 hbag11 hb11 hB12
  have f12 := (cell_of_row _ _ 12 _ _ _ hbag12).trans (show (bagC v)[12]? = some (Value.slice none 0 0) from rfl)
  go_wp2_with fail
  refine (flatLocs_nil _).mono ?_
  rintro e W13 ⟨rfl, hB13⟩
  have hbag13 := blk_below hB13 hbag12 (blk_lt hbag12)
  have hb13 := hb12.trans (hB13.mono (Nat.le_trans hB hb12.size))
  clear f12 hbag12 hb12 hB13
  have f13 := (cell_of_row _ _ 13 _ _ _ hbag13).trans (show (bagC v)[13]? = some (Value.slice none 0 0) from rfl)
  go_wp2_with fail
  refine (flatFacts_nil _).mono ?_
  rintro e W14 ⟨rfl, hB14⟩
  have hbag14 := blk_below hB14 hbag13 (blk_lt hbag13)
  have hb14 := hb13.trans (hB14.mono (Nat.le_trans hB hb13.size))
  clear f13 hbag13 hb13 hB14
  have f14 := (cell_of_row _ _ 14 _ _ _ hbag14).trans (show (bagC v)[14]? = some (Value.slice none 0 0) from rfl)
  go_wp2_with fail
  refine (flatEdges_nil _).mono ?_
  rintro e W15 ⟨rfl, hB15⟩
  have hbag15 := blk_below hB15 hbag14 (blk_lt hbag14)
  have hb15 := hb14.trans (hB15.mono (Nat.le_trans hB hb14.size))
  clear f14 hbag14 hb14 hB15
  have f15 := (cell_of_row _ _ 15 _ _ _ hbag15).trans (show (bagC v)[15]? = some (Value.slice none 0 0) from rfl)
  go_wp2_with fail
  refine (flatTiles_nil _).mono ?_
  rintro e W16 ⟨rfl, hB16⟩
  have hbag16 := blk_below hB16 hbag15 (blk_lt hbag15)
  have hb16 := hb15.trans (hB16.mono (Nat.le_trans hB hb15.size))
  clear f15 hbag15 hb15 hB16
  have f16 := (cell_of_row _ _ 16 _ _ _ hbag16).trans (show (bagC v)[16]? = some (Value.slice none 0 0) from rfl)
  go_wp2_with fail
  refine (flatCalls_nil _).mono ?_
  rintro e W17 ⟨rfl, hB17⟩
  have hbag17 := blk_below hB17 hbag16 (blk_lt hbag16)
  have hb17 := hb16.trans (hB17.mono (Nat.le_trans hB hb16.size))
  clear f16 hbag16 hb16 hB17
  go_wp2
  go_ret
  exact ⟨rfl, hb17⟩

set_option maxRecDepth 100000 in
set_option maxHeartbeats 2000000 in
theorem ApartInts_any (L0 c0 B : Nat) (cs : Array Value) (xs : List SV) (w : World) (hpos : 0 < xs.length) (hm : xs.length ≤ 100) (hrow : w.heap[L0]? = some (.cells cs 22 (0, 0))) (hown : ∀ k, k < xs.length → Ow w (gS xs k))
    (hcs : ∀ k, k < xs.length → cs[k]? = some (gS xs k).val) (hA : LA B xs) (hn : ∀ k, k < xs.length → (gS xs k).n ≤ 1024) (hB : B ≤ w.heap.size) :
    Calls Tryz.prog 29 #[.slice (some ⟨L0, 0, none⟩) xs.length c0] w fun e w' => e = .returned (.bool true) ∧ Below B w w' := by
  have hb0 := (Below.refl w.heap.size w).alloc (Nat.le_refl _) (.cells (bagC (.slice none 0 0)) 100)
  have hbag0 := blk_new w (.cells (bagC (.slice none 0 0)) 100)
  have hvals : ∀ k, k < xs.length → (xs.take (k + 1)).map SV.val = (xs.take k).map SV.val ++ [(gS xs k).val] := fun k hk => by
    rw [map_take_succ SV.val xs hk]
    simp [gS, hk]
  have hvals' := Lib.hid hvals
  clear hvals
  have hcell : ∀ (W : World) (k : Nat), Below w.heap.size w W → k < xs.length → W.cell? ⟨L0, k, none⟩ = some (gS xs k).val := fun W k hW hk => (cell_of_row W L0 k cs _ (0, 0) (blk_below hW hrow (blk_lt hrow))).trans (hcs k hk)
  have hcell' := Lib.hid hcell
  clear hcell hcs
  unfold bagC at hb0 hbag0
  go_enter Tryz.func29, Tryz.ntmps29
  go_wp2
  go_loopw [4] (fun v4 W => ∃ (k : Nat) (v : Value), k ≤ xs.length ∧ v4 = .int .i64 k ∧ W.heap[w.heap.size]? = some (.cells (bagC v) 100 (0, 0)) ∧ W.ownsRow w.heap.size 22 1 v k ((xs.take k).map SV.val) ∧ Below w.heap.size w W) (fun v4 _ => xs.length - (intOf v4).toNat)
  case atStart => exact ⟨0, _, Nat.zero_le _, rfl, hbag0, World.ownsRow_nil _ _ _ _, hb0⟩
  case round =>
    clear hbag0 hb0
    obtain ⟨k, v, hk, rfl, hbag, hrow2, hb⟩ := hrel
    by_cases hkl : k < xs.length
    · have hd : decide ((k : Int) < (xs.length : Int)) = true := decide_eq_true (by omega)
      have hk4 : (0 : Int) ≤ (k : Int) := by omega
      have hk2 : (k : Int) < (xs.length : Int) := by omega
      have hc := hcell'.out wr k hb hkl
      unfold SV.val at hc
      go_wp2_with fail
      refine (putInts_any w.heap.size (gS xs k) v k _ wr (by omega) hbag hrow2).mono ?_
      rintro e W1 ⟨⟨v1, rfl⟩, u, hbag1, hrow1, hb1⟩
      rw [← hvals'.out k hkl] at hrow1
      go_wp2
      go_roundw
      case rel => exact ⟨k + 1, u, by omega, by go_num, hbag1, hrow1, hb.trans hb1⟩
      case measure => simp [intOf]; omega
    · obtain rfl : k = xs.length := by omega
      have hd : decide ((xs.length : Int) < (xs.length : Int)) = false := by simp
      rw [List.take_length] at hrow2
      obtain ⟨Lb, cl, cur, rfl, hLb, hrb, hnc, hcm, hcz, htk⟩ := own_some hrow2 hpos
      rw [Nat.mul_one] at htk
      have hcs2 : ∀ k, k < xs.length → cur[k]? = some (gS xs k).val := fun k hk => by
        have h2 := congrArg (fun l : List Value => l[k]?) htk
        simp only [List.getElem?_take, if_pos hk, List.getElem?_map, List.getElem?_eq_getElem hk, Option.map_some] at h2
        rw [Array.getElem?_toList] at h2
        rw [h2]
        simp [gS, hk]
      have hap := apart_any w.heap.size Lb cl B cur xs wr hpos hm hbag hrb (fun k hk => (hown k hk).same fun b _ hlt => hb.block b hlt) hcs2 hA hn (Nat.le_trans hB hb.size)
      clear hcs2 hrow2 hrb
      go_wp2_with fail
      refine hap.mono ?_
      rintro e W1 ⟨rfl, hb1⟩
      go_wp2
      go_ret
      exact ⟨rfl, (hb.mono hB).trans hb1⟩

end Go.Proofs.YtjichaeegheacaaGreatDoor
