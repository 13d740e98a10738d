
/-
  Package dom: Both.
-/
import Derived.Test.YtjichaeegheacaaDomL
namespace Go.Proofs.Ytjichaeegheacaa
open Go Go.RowKit

/-- What Both tells: -1 where one is not reached; else the one that those dominate that dominate both. -/
def BothP (bs : List Blk) (a b x : Int) : Prop :=
  (Way (suB bs) 0 a ∧ Way (suB bs) 0 b → Way (suB bs) 0 x ∧ ∀ d, DomP bs d x ↔ DomP bs d a ∧ DomP bs d b) ∧ (¬ (Way (suB bs) 0 a ∧ Way (suB bs) 0 b) → x = -1)
theorem dom_an_iff {bs : List Blk} (hc : Cl bs) {l : List Int} {T : PTree} (h : DomOk bs l T) {i : Nat} (hi : i < l.length) (a : Int) : DomP bs a (gI l i) ↔ ∃ d, An T i d ∧ gI l d = a := by
  obtain ⟨h1, h2, h3, h4, h5⟩ := order_facts hc h.ord
  rw [← dom_law hc h]
  unfold chI
  rw [if_pos (gI_mem hi), place_gI h1 hi, List.mem_map]
  constructor
  · rintro ⟨d, hd, e⟩; exact ⟨d, (mem_chT h.wf d i).1 hd, e⟩
  · rintro ⟨d, hd, e⟩; exact ⟨d, (mem_chT h.wf d i).2 hd, e⟩
theorem both_law {bs : List Blk} (hc : Cl bs) {l : List Int} {T : PTree} (h : DomOk bs l T) {i j : Nat} (hi : i < l.length) (hj : j < l.length) : BothP bs (gI l i) (gI l j) (gI l (meetF T (i + j) i j)) := by
  obtain ⟨h1, h2, h3, h4, h5⟩ := order_facts hc h.ord
  obtain ⟨m1, m2, m3, m4⟩ := meetF_spec h.wf (i + j) i j (Nat.le_refl _) (h.dn i hi) (h.dn j hj)
  have hm : meetF T (i + j) i j < l.length := by omega
  refine ⟨fun _ => ⟨(h4 _).1 (gI_mem hm), fun d => ?_⟩, fun q => absurd ⟨(h4 _).1 (gI_mem hi), (h4 _).1 (gI_mem hj)⟩ q⟩
  rw [dom_an_iff hc h hm, dom_an_iff hc h hi, dom_an_iff hc h hj]
  constructor
  · rintro ⟨x, hx, e⟩
    obtain ⟨q1, q2⟩ := (m4 x).1 hx
    exact ⟨⟨x, q1, e⟩, x, q2, e⟩
  · rintro ⟨⟨x, hx, e⟩, y, hy, e'⟩
    have hxl := hx.le h.wf
    have hyl := hy.le h.wf
    have : x = y := gI_inj h1 (by omega) (by omega) (e.trans e'.symm)
    subst this
    exact ⟨x, (m4 x).2 ⟨hx, hy⟩, e⟩

set_option maxRecDepth 100000 in
set_option maxHeartbeats 2000000 in
theorem Both_any (P : Value) (A : Option Addr) (c : Nat) (bs : List Blk) (a b : Int) (ha : I64 a) (hb : I64 b) (w : World) (hr : RF w A bs) (hcl : closedB bs = true) :
    Calls Try.prog 11 #[.agg #[P, .slice A bs.length c], .int .i64 a, .int .i64 b] w fun e w' => ∃ x, e = .returned (.int .i64 x) ∧ BothP bs a b x ∧ Below w.heap.size w w' := by
  have hc := closed_cl hr.ok hcl
  have hb0 := (Below.refl w.heap.size w).alloc (Nat.le_refl _) (.cells #[P, .slice A bs.length c] 25)
  have hs := blk_new w (.cells #[P, .slice A bs.length c] 25)
  go_enter Try.func11, Try.ntmps11
  go_wp2_with (refine wpList_load_row rfl _ _ rfl _ rfl _ _ _ _ hs Try.underlying25 rfl (by kernel_rfl) ?_)
  refine (made_yes P A c bs _ (hr.below hb0) hcl).mono ?_
  intro e W1 hm
  obtain ⟨bu, bp, l, T, rfl, hu, hp, hT, hD, hB, _⟩ := hm.reads hc
  have hB1 := hb0.trans (hB.mono hb0.size)
  obtain ⟨on, o0, opos, oway, ook⟩ := order_facts hc hD.ord
  have hra := hT.reach ha
  have hrb := hT.reach hb
  have hrA : reachI (plF l bs.length l.length) a = true → ∃ i, i < l.length ∧ gI l i = a := fun h => by
    obtain ⟨i, h1, h2, _⟩ := mem_place (hra.1 h)
    exact ⟨i, h1, h2⟩
  have hrB : reachI (plF l bs.length l.length) b = true → ∃ i, i < l.length ∧ gI l i = b := fun h => by
    obtain ⟨i, h1, h2, _⟩ := mem_place (hrb.1 h)
    exact ⟨i, h1, h2⟩
  have hno : reachI (plF l bs.length l.length) a = false ∨ reachI (plF l bs.length l.length) b = false → BothP bs a b (-1) := fun h => by
    have hn : ¬ (Way (suB bs) 0 a ∧ Way (suB bs) 0 b) := fun ⟨q1, q2⟩ => by
      rcases h with h | h
      · rw [hra.2 ((oway a).2 q1)] at h; cases h
      · rw [hrb.2 ((oway b).2 q2)] at h; cases h
    exact ⟨fun q => absurd q hn, fun _ => rfl⟩
  clear hra hrb hs hb0
  generalize hul : uOf l bs.length T = U at *
  generalize hplf : plF l bs.length l.length = Pl at *
  clear hul hplf
  have hbt := blk_new W1 (.cells #[.slice none 0 0, .slice none 0 0] 57)
  have hbt2 := blk_setRow hbt (cs' := #[.slice (some ⟨bu, 0, none⟩) U.length bs.length, .slice (some ⟨bp, 0, none⟩) Pl.length bs.length])
  have hbs := below_setRow ((Below.refl W1.heap.size W1).alloc (Nat.le_refl _) (.cells #[.slice none 0 0, .slice none 0 0] 57)) (Nat.le_refl _) #[.slice (some ⟨bu, 0, none⟩) U.length bs.length, .slice (some ⟨bp, 0, none⟩) Pl.length bs.length]
  go_wp2_with (first | (refine wpList_store_row rfl _ _ _ rfl W1.heap.size #[.slice (some ⟨bu, 0, none⟩) U.length bs.length, .slice (some ⟨bp, 0, none⟩) Pl.length bs.length] rfl rfl _ _ hbt (by kernel_rfl) rfl (by simp [Value.oneCell']) ?_) | (refine wpList_load_row rfl _ _ rfl _ rfl _ _ _ _ hbt2 Try.underlying57 rfl (by kernel_rfl) ?_))
  obtain ⟨W2, hW2⟩ : ∃ W2, (W1.alloc (.cells #[.slice none 0 0, .slice none 0 0] 57)).setRow W1.heap.size #[.slice (some ⟨bu, 0, none⟩) U.length bs.length, .slice (some ⟨bp, 0, none⟩) Pl.length bs.length] = W2 := ⟨_, rfl⟩
  simp only [hW2] at hbt2 hbs ⊢
  clear hW2 hbt
  have hB2 := hB1.trans (hbs.mono hB1.size)
  have hu2 := hu.below hbs
  have hp2 := hp.below hbs
  generalize W1.heap.size = tb at *
  refine (reached_any (.slice (some ⟨bu, 0, none⟩) U.length bs.length) (some ⟨bp, 0, none⟩) bs.length Pl a W2 ha hp2).mono ?_
  rintro e W3 ⟨rfl, hb3⟩
  have hbt3 := blk_below hb3 hbt2 (blk_lt hbt2)
  have hB3 := hB2.trans (hb3.mono hB2.size)
  have hu3 := hu2.below hb3
  have hp3 := hp2.below hb3
  cases hqa : reachI Pl a
  · have hno' := Lib.hid (hno (.inl hqa))
    clear hno hrA hrB hqa
    go_wp2
    go_ret
    exact ⟨_, rfl, hno'.out, hB3⟩
  · clear hu2 hp2 hb3 hbt2 hbs
    go_wp2_with (refine wpList_load_rowG rfl _ _ rfl _ rfl _ _ _ _ hbt3 Try.underlying57 rfl (by kernel_rfl) ?_)
    refine (reached_any (.slice (some ⟨bu, 0, none⟩) U.length bs.length) (some ⟨bp, 0, none⟩) bs.length Pl b W3 hb hp3).mono ?_
    rintro e W4 ⟨rfl, hb4⟩
    have hbt4 := blk_below hb4 hbt3 (blk_lt hbt3)
    have hB4 := hB3.trans (hb4.mono hB3.size)
    have hu4 := hu3.below hb4
    have hp4 := hp3.below hb4
    cases hqb : reachI Pl b
    · have hno' := Lib.hid (hno (.inr hqb))
      clear hno hrA hrB hqa hqb
      go_wp2
      go_ret
      exact ⟨_, rfl, hno'.out, hB4⟩
    · obtain ⟨i, hi, rfl⟩ := hrA hqa
      obtain ⟨j, hj, rfl⟩ := hrB hqb
      have hlaw := Lib.hid (both_law hc hD hi hj)
      have hmm := meet_any l bs.length T U Pl hT (some ⟨bu, 0, none⟩) (some ⟨bp, 0, none⟩) bs.length bs.length W4 hu4 hp4 i j hi hj (hD.dn i hi) (hD.dn j hj)
      clear hno hrA hrB hqa hqb
      go_wp2_with (refine wpList_load_row rfl _ _ rfl _ rfl _ _ _ _ hbt4 Try.underlying57 rfl (by kernel_rfl) ?_)
      refine hmm.mono ?_
      rintro e W5 ⟨rfl, hb5⟩
      go_wp2
      go_ret
      exact ⟨_, rfl, hlaw.out, hB4.trans (hb5.mono hB4.size)⟩

end Go.Proofs.Ytjichaeegheacaa
