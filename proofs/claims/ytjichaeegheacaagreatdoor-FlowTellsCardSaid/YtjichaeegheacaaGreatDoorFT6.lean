/-
  Some Into
-/
import Derived.Test.YtjichaeegheacaaGreatDoorFT4
import Derived.Test.YtjichaeegheacaaGreatDoorFT2

/- Some -/
/-
  Package flow: some: the edges of which something is so.
-/
namespace Go.Proofs.YtjichaeegheacaaGreatDoor
open Go Go.RowKit
attribute [local go_sem] Oper.semAt_some

/-- The cells of a row of edges. -/
def edCells : List Ed → List Value
  | [] => []
  | e :: r => .int .i64 e.f :: .int .i64 e.a :: .int .i64 e.t :: edCells r
theorem edCells_append (xs ys : List Ed) : edCells (xs ++ ys) = edCells xs ++ edCells ys := by
  induction xs with
  | nil => rfl
  | cons x r ih => simp [edCells, ih]
theorem edCells_len (xs : List Ed) : (edCells xs).length = xs.length * 3 := by
  induction xs with
  | nil => rfl
  | cons x r ih => simp [edCells, ih]; omega

/-- A call that hands back a row of edges of its own. -/
def FreshEds (w : World) (xs : List Ed) (e : Ending) (w' : World) : Prop :=
  ∃ v, e = .returned v ∧ w'.ownsRow w.heap.size 58 3 v xs.length (edCells xs) ∧ (v = .slice none 0 0 ↔ xs = []) ∧ Below w.heap.size w w'

/-- Three cells that are new. -/
theorem cell_three_new (w : World) (x y z : Value) (t : TypeId) : ∀ j u, [x, y, z][j]? = some u → (w.alloc (.cells #[x, y, z] t)).cell? ((⟨w.heap.size, 0, none⟩ : Addr).add j) = some u := by
  intro j u hj
  have hb := blk_new w (.cells #[x, y, z] t)
  have hadd : (⟨w.heap.size, 0, none⟩ : Addr).add j = ⟨w.heap.size, j, none⟩ := by unfold Addr.add; split <;> simp_all
  rw [hadd, cell_of_row _ _ _ _ _ (0, 0) hb]
  simpa using hj

theorem infoEdge : (Tryz.prog.info? 58).map (fun i => (i.zero, i.size, i.bytes)) = some (some (.agg #[.int .i64 0, .int .i64 0, .int .i64 0]), 3, 24) := by kernel_rfl

/-- The edges that some answers. -/
def someE (bs : List Blk) (p : Ed → Bool) : List Ed := if closedB bs then (edgesOf bs).filter p else []

set_option maxRecDepth 100000 in
set_option maxHeartbeats 2000000 in
theorem some_any (P : Value) (A : Option Addr) (c : Nat) (bs : List Blk) (q : FuncId) (cap : Array Value) (p : Ed → Bool) (w : World) (hr : RF w A bs)
    (hq : ∀ args w, (callFunc q args).run Tryz.prog w = .ok (.enter q args) w)
    (hp : ∀ x W, I64 x.f → I64 x.t → Below w.heap.size w W → Calls Tryz.prog q (#[.agg (Ed.val x)] ++ cap) W (fun e W' => e = .returned (.bool (p x)) ∧ Below W.heap.size W W')) :
    Calls Tryz.prog 52 #[.agg #[P, .slice A bs.length c], .func (.func q) #[] cap] w (FreshEds w (someE bs p)) := by
  refine (callsIn_wide (n := 5)).1 ?_
  refine callsIn_of_wp_marks Tryz.func52 rfl trivial ?_ rfl
  simp only [Tryz.ntmps52, List.size_toArray, List.length_cons, List.length_nil, Nat.reduceAdd, Nat.reduceSub, Array.replicate_succ, Array.replicate_zero, List.push_toArray, List.append_toArray, List.nil_append, List.cons_append]
  have hs : (((w.alloc (.cells #[P, .slice A bs.length c] 25)).alloc (.cells #[.func (.func q) #[] cap] 66)).alloc (.cells #[.slice none 0 0] 32)).heap[w.heap.size]? = some (.cells #[P, .slice A bs.length c] 25 (0, 0)) := (blk_old _ _ (by simp; omega)).trans ((blk_old _ _ (by simp)).trans (blk_new w _))
  gi_wp2_with (first | (refine wpListIn_load_row rfl _ _ rfl _ rfl _ _ _ _ hs Tryz.underlying25 rfl (by kernel_rfl) ?_))
  refine ⟨trivial, ?_⟩
  have hB3 : Below w.heap.size w (((w.alloc (.cells #[P, .slice A bs.length c] 25)).alloc (.cells #[.func (.func q) #[] cap] 66)).alloc (.cells #[.slice none 0 0] 32)) := (((Below.refl _ w).alloc (Nat.le_refl _) _).alloc (by simp) _).alloc (by simp; omega) _
  refine ((callsIn_wide (n := 4)).2 (Closed_any P A c bs _ (hr.below hB3))).mono ?_
  rintro e W1 ⟨rfl, hb1⟩
  have hB4 := hB3.trans (hb1.mono hB3.size)
  have b4 := blk_new ((w.alloc (.cells #[P, .slice A bs.length c] 25)).alloc (.cells #[.func (.func q) #[] cap] 66)) (.cells #[.slice none 0 0] 32)
  rw [World.size_alloc, World.size_alloc] at b4
  have b4' : Boxed W1 (w.heap.size + 1 + 1) 32 (.slice none 0 0) := blk_below hb1 b4 (by simp)
  have hbox := b4'.cell
  have hfz := b4'.frozen
  cases hcl : closedB bs
  · have hse := Lib.hid (show someE bs p = [] by simp [someE, hcl])
    gi_wp2
    have hB2 := b4'.set (.slice none 0 0)
    refine ⟨_, results_cell_one rfl _ _ _ _ rfl hB2.cell (by kernel_rfl), ?_⟩
    rw [hse.out]
    exact ⟨_, rfl, World.ownsRow_nil _ _ _ _, by simp, hB4.setCell (p := ⟨w.heap.size + 1 + 1, 0, none⟩) (by simp; omega) _⟩
  · have hse := Lib.hid (show someE bs p = (edgesOf bs).filter p by simp [someE, hcl])
    have hl200 : bs.length ≤ 200 := by
      unfold closedB at hcl
      rw [Bool.and_eq_true, Bool.and_eq_true, decide_eq_true_iff, decide_eq_true_iff] at hcl
      exact hcl.2.2
    have hs1 : W1.heap[w.heap.size]? = some (.cells #[P, .slice A bs.length c] 25 (0, 0)) := blk_below hb1 hs (by simp; omega)
    gi_wp2_with (first | (refine wpListIn_load_row rfl _ _ rfl _ rfl _ _ _ _ hs1 Tryz.underlying25 rfl (by kernel_rfl) ?_) | (refine ⟨trivial, ?_⟩; gi_at_call 50; refine (flowEach_in _ _ _ _).mono ?_; rintro e w' ⟨rfl, rfl⟩))
    have hf1 : W1.heap[w.heap.size + 1]? = some (.cells #[.func (.func q) #[] cap] 66 (0, 0)) := by
      have := blk_new (w.alloc (.cells #[P, .slice A bs.length c] 25)) (.cells #[.func (.func q) #[] cap] 66)
      rw [World.size_alloc] at this
      exact blk_below hb1 ((blk_old _ _ (by simp)).trans this) (by simp)
    have h5 := blk_new W1 (.cells #[P, .slice A bs.length c] 25)
    have hB5 := hB4.alloc hB4.size (.cells #[P, .slice A bs.length c] 25)
    have hf5 := (blk_old W1 (.cells #[P, .slice A bs.length c] 25) (blk_lt hf1)).trans hf1
    have hO5 := b4'.alloc (.cells #[P, .slice A bs.length c] 25)
    refine wpIn_rangeFunc_ownH rfl (by omega) (gf := 81) (lb := #[.pointer (some ⟨W1.heap.size, 0, none⟩)]) rfl trivial (enters_of Tryz.func81 (by kernel_rfl) rfl)
      (flowEach_stopsI (5 - 1) (by omega) W1.heap.size P A c bs w hr (fun e he => edge_i64 hr.ok hr.len he) _ hB5 h5) (fun h k => ⟨h.1.trans k.1, h.2.trans k.2⟩) (fun W l o o' hl h ho hw => ⟨belowK_b (n₀ := w.heap.size) hB5.size W l o o' hl h ho hw, keepE_b W l o o' h ho⟩) (Below.refl _ _) (fun _ => rfl)
      (fun (pre : List EdI) W => ((∃ v, Boxed W (w.heap.size + 1 + 1) 32 v ∧ W.ownsRow w.heap.size 58 3 v ((unE pre).filter p).length (edCells ((unE pre).filter p)) ∧ (v = .slice none 0 0 ↔ (unE pre).filter p = [])) ∧ W.heap[w.heap.size + 1]? = some (.cells #[.func (.func q) #[] cap] 66 (0, 0))) ∧ Below w.heap.size w W)
      (fun _ _ _ => False)
      ?hI (fun _ _ _ _ _ hs _ _ => hs) ⟨⟨⟨_, hO5, World.ownsRow_nil _ _ _ _, by simp [unE]⟩, hf5⟩, hB5⟩
      (fun x a' W => ∃ g, w.heap.size ≤ g ∧ W.heap[g]? = some (.cells (Ed.val x.1) 58 (0, 0)) ∧ a' = { tmps := #[.agg #[P, .slice A bs.length c], .func (.func q) #[] cap, .pointer (some ⟨w.heap.size, 0, none⟩), .pointer (some ⟨w.heap.size + 1, 0, none⟩), .pointer (some ⟨w.heap.size + 1 + 1, 0, none⟩), .pointer (some ⟨g, 0, none⟩), .agg #[P, .slice A bs.length c], .bool true, .bool false, .agg #[P, .slice A bs.length c], .func (.func 81) #[] #[.pointer (some ⟨W1.heap.size, 0, none⟩)], .agg (Ed.val x.1), undef, undef, undef, undef, undef, undef, undef, undef], defers := [] })
      ?hAx ?assign ?body ?done ?stop
    case hI =>
      exact OwnFrom.and (OwnFrom.and (Own.from (holdsRow_own w.heap.size (w.heap.size + 1 + 1) 32 58 3 (fun pre : List EdI => ((unE pre).filter p).length) (fun pre => edCells ((unE pre).filter p)) (fun pre v => v = .slice none 0 0 ↔ (unE pre).filter p = [])) _) (ownCells _ _ _ _)) (ownFrom_below (Nat.le_refl _) hB5.size)
    case hAx =>
      intro x a' s W W' row hs hg hr
      obtain ⟨g, hgs, hc, ha⟩ := hs
      exact ⟨g, hgs, ownCells (β := Unit) g _ _ _ () W W' row hc hg hr, ha⟩
    case assign =>
      intro l pre x W K hi hK
      have hz := blk_new W (.cells #[.int .i64 0, .int .i64 0, .int .i64 0] 58)
      gi_wp2_with (refine wpListIn_store_row rfl _ _ _ rfl W.heap.size (Ed.val x.1) rfl rfl _ _ hz (by kernel_rfl) rfl (by simp [Ed.val, int_one]) ?_)
      show K _ _
      have hg0 : W.grownBy ((W.alloc (.cells #[.int .i64 0, .int .i64 0, .int .i64 0] 58)).setRow W.heap.size (Ed.val x.1)) none := below_grown (below_setRow ((Below.refl _ W).alloc (Nat.le_refl _) _) (Nat.le_refl _) _)
      have hB := hi.2
      refine hK _ _ (KeepsFrom.of_grownBy hg0 (fun j e => by cases e)) ⟨(Below.refl _ W).grown hg0 hB.size (fun k e => by cases e), ⟨hg0.size, fun k c t h _ => (hg0.block k (blk_lt h) (by simp)).trans h⟩⟩ ?_ ⟨W.heap.size, hB.size, blk_setRow hz, rfl⟩
      obtain ⟨⟨⟨v, hv, ho, hn⟩, hf⟩, _⟩ := hi
      exact ⟨⟨⟨v, hv.kept hg0 (by simp), ho.kept hg0 (by cases hov : v.ownBlock <;> simp), hn⟩, (hg0.block _ (blk_lt hf) (by simp)).trans hf⟩, hB.trans ((Below.refl _ W).grown hg0 hB.size (fun k e => by cases e))⟩
    case body =>
      rintro l pre0 ⟨x, hx1, hx2, hx3⟩ a' W hl hL ⟨⟨⟨v, hv, ho, hn⟩, hf⟩, hB⟩ ⟨g, hgs, hgc, rfl⟩ hlt
      rw [← unE_len] at hlt
      have hsn := Lib.hid (unE_snoc pre0 ⟨x, hx1, hx2, hx3⟩)
      obtain ⟨pre, hpre0⟩ : ∃ pre, unE pre0 = pre := ⟨_, rfl⟩
      rw [hpre0] at ho hn hlt hsn
      clear hpre0
      simp only at hgc
      have hc0 := hv.cell
      have hfz := hv.frozen
      have c1 : W.cell? ⟨w.heap.size + 1, 0, none⟩ = some (.func (.func q) #[] cap) := (cell_of_row W _ _ _ _ _ hf).trans rfl
      gi_wp2_with (refine wpListIn_load_row rfl _ _ rfl _ rfl _ _ _ _ hgc Tryz.underlying58 rfl (by kernel_rfl) ?_)
      refine ⟨trivial, ?_⟩
      refine (CallsIn.inRound l ((callsIn_wide (n := 2)).2 (hp x W hx1 hx3 hB))).mono ?_
      rintro e W2 ⟨rfl, hb2⟩
      have hg2 := below_grown hb2
      have hv2 : Boxed W2 (w.heap.size + 1 + 1) 32 v := hv.kept hg2 (by simp)
      have ho2 := ho.kept hg2 (by cases hov : v.ownBlock <;> simp)
      have hgc2 := blk_below hb2 hgc (blk_lt hgc)
      have hf2 := blk_below hb2 hf (blk_lt hf)
      have hBB := hB.trans (hb2.mono hB.size)
      have hc2 := hv2.cell
      have hfz2 := hv2.frozen
      cases hpx : p x
      · have hfil : (pre ++ [x]).filter p = pre.filter p := by rw [List.filter_append]; simp [hpx]
        have hfil' := Lib.hid hfil
        clear hfil
        have hk2 : KeepE W W2 := ⟨hb2.size, fun k c t h _ => blk_below hb2 h (blk_lt h)⟩
        gi_wp2
        refine ⟨KeepsFrom.of_grownBy hg2 (fun j e => by cases e), ⟨hb2.mono hB.size, hk2⟩, ⟨⟨v, hv2, ?_, ?_⟩, hf2⟩, hBB⟩
        · rw [hsn.out, hfil'.out]; exact ho2
        · rw [hsn.out, hfil'.out]; exact hn
      · have hfil : (pre ++ [x]).filter p = pre.filter p ++ [x] := by rw [List.filter_append]; simp [hpx]
        have hfil' := Lib.hid hfil
        clear hfil
        have hbound : (pre.filter p).length ≤ 2 * bs.length := by have := List.length_filter_le p pre; omega
        have hlen := hr.len
        obtain ⟨i0, hi, hz0, hz1, hz2⟩ := info_parts infoEdge
        have hgc3 : W2.heap[g]? = some (.cells #[.int .i64 x.f, .int .i64 x.a, .int .i64 x.t] 58 (0, 0)) := hgc2
        gi_wp2_with (first | (refine wpListIn_load_row rfl _ _ rfl _ rfl _ _ _ _ hgc3 Tryz.underlying58 rfl (by kernel_rfl) ?_) | (gi_at_builtin; refine wpListIn_append_own _ rfl _ _ 32 rfl w.heap.size 58 i0 (.agg #[.int .i64 0, .int .i64 0, .int .i64 0]) 3 24 Tryz.underlying32 hi hz0 hz1 hz2 rfl (by decide) _ _ _ rfl (ho2.alloc _) ⟨W2.heap.size, 0, none⟩ 1 1 [.int .i64 x.f, .int .i64 x.a, .int .i64 x.t] rfl rfl (cell_three_new _ _ _ _ _) (by simp [int_one]) (by unfold maxLen; omega) (by omega) (by have := hBB.size; simp; omega) ?_; intro v' w1 hown' hgrow _; obtain ⟨g', cap', rfl⟩ := ownsRow_succ hown'; obtain ⟨hv1, hv3, hr3, hk3, hb3⟩ := hv2.appended (by decide) ho2 hBB.size (by omega) hown' hgrow; have hc1 := hv1.cell; have hf1 := hv1.frozen))
        have hke : KeepE W (w1.setCell ⟨w.heap.size + 1 + 1, 0, none⟩ (.slice (some ⟨g', 0, none⟩) ((pre.filter p).length + 1) cap')) := by
          refine KeepE.trans (⟨hb2.size, fun k c t h _ => blk_below hb2 h (blk_lt h)⟩ : KeepE W W2) ⟨?_, fun k c t h ht => ?_⟩
          · have := hgrow.size; simp [World.setCell] at this ⊢; omega
          · have hne : k ≠ w.heap.size + 1 + 1 := by
              rintro rfl
              have h2 : W2.heap[w.heap.size + 1 + 1]? = _ := hv2
              rw [h] at h2
              cases h2
              rcases ht with e | e | e <;> cases e
            rw [blk_far (p := ⟨w.heap.size + 1 + 1, 0, none⟩) hne]
            refine (hgrow.block k (by have := blk_lt h; simp; omega) (fun e => ?_)).trans ((blk_old _ _ (blk_lt h)).trans h)
            rcases ho2.2 with ⟨rfl, _⟩ | ⟨g2, cap2, cur2, rfl, _, hg2b, _⟩
            · cases e
            · cases e
              rw [h] at hg2b
              cases hg2b
              rcases ht with e | e | e <;> cases e
        have hf3 : (w1.setCell ⟨w.heap.size + 1 + 1, 0, none⟩ (.slice (some ⟨g', 0, none⟩) ((pre.filter p).length + 1) cap')).heap[w.heap.size + 1]? = some (.cells #[.func (.func q) #[] cap] 66 (0, 0)) := by
          rw [blk_far (p := ⟨w.heap.size + 1 + 1, 0, none⟩) (by simp)]
          refine (hgrow.block _ (by have := blk_lt hf2; simp; omega) (fun e => ?_)).trans ((blk_old _ _ (blk_lt hf2)).trans hf2)
          rcases ho2.2 with ⟨rfl, _⟩ | ⟨g2, cap2, cur2, rfl, _, hg2b, _⟩
          · cases e
          · cases e
            rw [hf2] at hg2b
            cases hg2b
        refine ⟨(KeepsFrom.of_grownBy hg2 (fun j e => by cases e)).trans (hk3.from _), ⟨(hb2.mono hB.size).trans hb3, hke⟩, ⟨⟨_, hv3, ?_, ?_⟩, hf3⟩, hBB.trans hb3⟩
        · rw [hsn.out, hfil'.out, edCells_append, List.length_append]; exact hr3
        · rw [hsn.out, hfil'.out]; simp
    case done =>
      rintro D ys W hD hys ⟨⟨⟨v, hv, ho, hn⟩, hf⟩, hB⟩ hK
      rw [hys] at ho hn
      clear hys
      obtain ⟨A', c', rfl⟩ := own_form ho
      have hc := hv.cell
      have hfz := hv.frozen
      gi_wp2
      have hse2 := hse.out
      clear hse
      generalize (edgesOf bs).filter p = L at *
      have hK2 : (W.setCell ⟨w.heap.size + 1 + 1, 0, none⟩ (.slice A' L.length c')).heap[D]? = some (.deferred (some [])) := (KeepsOthers.setCell _ _ _).same D _ hK rfl
      have hB2 := hv.set (.slice A' L.length c')
      have hDs : w.heap.size ≤ D := by have := hB5.size; omega
      have hne : D ≠ w.heap.size + 1 + 1 := by
        rintro rfl
        have h2 : W.heap[w.heap.size + 1 + 1]? = _ := hv
        rw [h2] at hK; cases hK
      refine ⟨by simp, .inl ⟨_, _, rfl, run_takeDeferred hK2, ?_⟩⟩
      have hv3 : Boxed ((W.setCell ⟨w.heap.size + 1 + 1, 0, none⟩ (.slice A' L.length c')).putObj D (.deferred none)) (w.heap.size + 1 + 1) 32 (.slice A' L.length c') := hB2.kept (grownBy_putObj' _ _ _) (by simpa using fun e => hne e.symm)
      refine ⟨_, results_cell_one rfl _ _ _ _ rfl hv3.cell (by kernel_rfl), ?_⟩
      rw [hse2]
      refine ⟨_, rfl, ?_, hn, ?_⟩
      · exact ownsRow_putObj (ho.kept (grownBy_setCell' _ _ _) (.inr (hv.not_row (by decide) ho).symm)) _ hK2 rfl
      · exact (hB.setCell (p := ⟨w.heap.size + 1 + 1, 0, none⟩) (by simp; omega) _).grown (grownBy_putObj' _ _ _) (by simp [World.setCell]; exact hB.size) (fun k e => by cases e; exact hDs)
    case stop => intro D cd pre W hD hpre hx; exact hx.elim

end Go.Proofs.YtjichaeegheacaaGreatDoor

/- Into -/
/-
  Package flow: Edges, From, Into.
-/
namespace Go.Proofs.YtjichaeegheacaaGreatDoor
open Go Go.RowKit

theorem edgesLit_any (x : Ed) (W : World) :
    Calls Tryz.prog 53 #[.agg (Ed.val x)] W (fun e W' => e = .returned (.bool true) ∧ Below W.heap.size W W') := by
  unfold Ed.val
  go_enter Tryz.func53, Tryz.ntmps53
  go_wp2
  go_ret
  exact ⟨rfl, (Below.refl _ _).alloc (Nat.le_refl _) _⟩

theorem fromLit_any (x : Ed) (b : Nat) (n : Int) (W : World) (hb : b < W.heap.size) (hc : W.heap[b]? = some (.cells #[.int .i64 n] 3 (0, 0))) :
    Calls Tryz.prog 55 #[.agg (Ed.val x), .pointer (some ⟨b, 0, none⟩)] W (fun e W' => e = .returned (.bool (decide (x.f = n))) ∧ Below W.heap.size W W') := by
  unfold Ed.val
  have c0 := cell_of_one ((blk_old W (.cells #[.int .i64 x.f, .int .i64 x.a, .int .i64 x.t] 58) hb).trans hc)
  go_enter Tryz.func55, Tryz.ntmps55
  go_wp2
  go_ret
  refine ⟨?_, (Below.refl _ _).alloc (Nat.le_refl _) _⟩
  congr 2

theorem intoLit_any (x : Ed) (b : Nat) (n : Int) (W : World) (hb : b < W.heap.size) (hc : W.heap[b]? = some (.cells #[.int .i64 n] 3 (0, 0))) :
    Calls Tryz.prog 54 #[.agg (Ed.val x), .pointer (some ⟨b, 0, none⟩)] W (fun e W' => e = .returned (.bool (decide (x.t = n))) ∧ Below W.heap.size W W') := by
  unfold Ed.val
  have c0 := cell_of_one ((blk_old W (.cells #[.int .i64 x.f, .int .i64 x.a, .int .i64 x.t] 58) hb).trans hc)
  go_enter Tryz.func54, Tryz.ntmps54
  go_wp2
  go_ret
  refine ⟨?_, (Below.refl _ _).alloc (Nat.le_refl _) _⟩
  congr 2

theorem FreshEds.mono {w0 w : World} {xs : List Ed} (h0 : Below w0.heap.size w0 w) {e : Ending} {w' : World} (h : FreshEds w xs e w') : FreshEds w0 xs e w' := by
  obtain ⟨v, he, ho, hn, hb⟩ := h
  refine ⟨v, he, ⟨ho.1, ?_⟩, hn, h0.trans (hb.mono h0.size)⟩
  rcases ho.2 with h | ⟨g, cap, cur, e1, e2, e3⟩
  · exact .inl h
  · exact .inr ⟨g, cap, cur, e1, Nat.le_trans h0.size e2, e3⟩

set_option maxRecDepth 100000 in
set_option maxHeartbeats 1000000 in
theorem Edges_any (P : Value) (A : Option Addr) (c : Nat) (bs : List Blk) (w : World) (hr : RF w A bs) :
    Calls Tryz.prog 14 #[.agg #[P, .slice A bs.length c]] w (FreshEds w (someE bs fun _ => true)) := by
  have hb0 := (Below.refl w.heap.size w).alloc (Nat.le_refl _) (.cells #[P, .slice A bs.length c] 25)
  have hs := blk_new w (.cells #[P, .slice A bs.length c] 25)
  have q := some_any P A c bs 53 #[] (fun _ => true) _ (hr.below hb0) (run_callFunc_own (by kernel_rfl)) (fun x W _ _ _ => edgesLit_any x W)
  go_enter Tryz.func14, Tryz.ntmps14
  go_wp2_with (refine wpList_load_row rfl _ _ rfl _ rfl _ _ _ _ hs Tryz.underlying25 rfl (by kernel_rfl) ?_)
  refine q.mono ?_
  intro e W1 hf
  obtain ⟨v, rfl, h2⟩ := FreshEds.mono hb0 hf
  go_wp2
  go_ret
  exact ⟨v, rfl, h2⟩

set_option maxRecDepth 100000 in
set_option maxHeartbeats 1000000 in
theorem From_any (P : Value) (A : Option Addr) (c : Nat) (bs : List Blk) (n : Int) (w : World) (hr : RF w A bs) :
    Calls Tryz.prog 18 #[.agg #[P, .slice A bs.length c], .int .i64 n] w (FreshEds w (someE bs fun x => decide (x.f = n))) := by
  have hb0 := ((Below.refl w.heap.size w).alloc (Nat.le_refl _) (.cells #[P, .slice A bs.length c] 25)).alloc (by simp) (.cells #[.int .i64 n] 3)
  have hs := (blk_old (w.alloc (.cells #[P, .slice A bs.length c] 25)) (.cells #[.int .i64 n] 3) (by simp)).trans (blk_new w (.cells #[P, .slice A bs.length c] 25))
  have hn := blk_new (w.alloc (.cells #[P, .slice A bs.length c] 25)) (.cells #[.int .i64 n] 3)
  rw [World.size_alloc] at hn
  have q := some_any P A c bs 55 #[.pointer (some ⟨w.heap.size + 1, 0, none⟩)] (fun x => decide (x.f = n)) _ (hr.below hb0) (run_callFunc_own (by kernel_rfl)) (fun x W _ _ hW => fromLit_any x (w.heap.size + 1) n W (Nat.lt_of_lt_of_le (blk_lt hn) hW.size) (blk_below hW hn (blk_lt hn)))
  have hmf : ∀ (fn : Fn) (first cap : Array Value) (w : World), (Instr.makeFunc fn first cap).run Tryz.prog w = .ok (.func fn first cap) w := fun _ _ _ _ => rfl
  go_enter Tryz.func18, Tryz.ntmps18
  go_wp2_with (refine wpList_load_row rfl _ _ rfl _ rfl _ _ _ _ hs Tryz.underlying25 rfl (by kernel_rfl) ?_)
  refine q.mono ?_
  intro e W1 hf
  obtain ⟨v, rfl, h2⟩ := FreshEds.mono hb0 hf
  go_wp2
  go_ret
  exact ⟨v, rfl, h2⟩

set_option maxRecDepth 100000 in
set_option maxHeartbeats 1000000 in
theorem Into_any (P : Value) (A : Option Addr) (c : Nat) (bs : List Blk) (n : Int) (w : World) (hr : RF w A bs) :
    Calls Tryz.prog 16 #[.agg #[P, .slice A bs.length c], .int .i64 n] w (FreshEds w (someE bs fun x => decide (x.t = n))) := by
  have hb0 := ((Below.refl w.heap.size w).alloc (Nat.le_refl _) (.cells #[P, .slice A bs.length c] 25)).alloc (by simp) (.cells #[.int .i64 n] 3)
  have hs := (blk_old (w.alloc (.cells #[P, .slice A bs.length c] 25)) (.cells #[.int .i64 n] 3) (by simp)).trans (blk_new w (.cells #[P, .slice A bs.length c] 25))
  have hn := blk_new (w.alloc (.cells #[P, .slice A bs.length c] 25)) (.cells #[.int .i64 n] 3)
  rw [World.size_alloc] at hn
  have q := some_any P A c bs 54 #[.pointer (some ⟨w.heap.size + 1, 0, none⟩)] (fun x => decide (x.t = n)) _ (hr.below hb0) (run_callFunc_own (by kernel_rfl)) (fun x W _ _ hW => intoLit_any x (w.heap.size + 1) n W (Nat.lt_of_lt_of_le (blk_lt hn) hW.size) (blk_below hW hn (blk_lt hn)))
  have hmf : ∀ (fn : Fn) (first cap : Array Value) (w : World), (Instr.makeFunc fn first cap).run Tryz.prog w = .ok (.func fn first cap) w := fun _ _ _ _ => rfl
  go_enter Tryz.func16, Tryz.ntmps16
  go_wp2_with (refine wpList_load_row rfl _ _ rfl _ rfl _ _ _ _ hs Tryz.underlying25 rfl (by kernel_rfl) ?_)
  refine q.mono ?_
  intro e W1 hf
  obtain ⟨v, rfl, h2⟩ := FreshEds.mono hb0 hf
  go_wp2
  go_ret
  exact ⟨v, rfl, h2⟩

end Go.Proofs.YtjichaeegheacaaGreatDoor
