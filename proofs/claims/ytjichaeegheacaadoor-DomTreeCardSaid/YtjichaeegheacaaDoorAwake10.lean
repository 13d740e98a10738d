/-
  Law 10's example: branch, jump, trap; awake.
-/
import Derived.Test.YtjichaeegheacaaDoorOrder
import Derived.Test.YtjichaeegheacaaDoorCritical
import Derived.Test.YtjichaeegheacaaDoorKit
namespace Go.Proofs.YtjichaeegheacaaDoor
open Go Go.RowKit

/-- A row of edges, as it reads. -/
structure RE (w : World) (A : Option Addr) (es : List Ed) : Prop where
  len : es.length ≤ 140737488355328
  rd : ∀ i, i < es.length → ∃ b off, A = some ⟨b, off, none⟩ ∧ b < w.heap.size ∧ ∀ W, Below w.heap.size w W → W.cell? ⟨b, off + i * 3, none⟩ = some (.int .i64 (gE es i).f) ∧ W.cell? ⟨b, off + i * 3 + 1, none⟩ = some (.int .i64 (gE es i).a) ∧ W.cell? ⟨b, off + i * 3 + 2, none⟩ = some (.int .i64 (gE es i).t)
theorem RE.below {w w' : World} {A : Option Addr} {es : List Ed} (h : RE w A es) (hb : Below w.heap.size w w') : RE w' A es :=
  ⟨h.len, fun i hi => by
    obtain ⟨b, off, e, hlt, hc⟩ := h.rd i hi
    exact ⟨b, off, e, Nat.lt_of_lt_of_le hlt hb.size, fun W hW => hc W (hb.trans (hW.mono hb.size))⟩⟩
theorem edCells_at : ∀ (es : List Ed) (i : Nat), i < es.length → (edCells es)[i * 3]? = some (.int .i64 (gE es i).f) ∧ (edCells es)[i * 3 + 1]? = some (.int .i64 (gE es i).a) ∧ (edCells es)[i * 3 + 2]? = some (.int .i64 (gE es i).t)
  | [], i, h => by cases h
  | e :: es, 0, _ => by simp [edCells, gE]
  | e :: es, i + 1, h => by
    have := edCells_at es i (by simpa using h)
    rw [show (i + 1) * 3 = i * 3 + 3 by omega, show i * 3 + 3 + 1 = i * 3 + 1 + 3 by omega, show i * 3 + 3 + 2 = i * 3 + 2 + 3 by omega]
    simpa [edCells, gE] using this
theorem own_RE {w : World} {base n : Nat} {v : Value} {es : List Ed} (h : w.ownsRow base 47 3 v n (edCells es)) (hl : es.length ≤ 140737488355328) :
    ∃ A c, v = .slice A es.length c ∧ es.length ≤ c ∧ RE w A es := by
  obtain ⟨h1, h2⟩ := h
  have hn : n = es.length := by rw [edCells_len] at h1; omega
  subst hn
  rcases h2 with ⟨rfl, h0⟩ | ⟨g, cap, cur, rfl, hg, hh, hc, hcap, hsz, htake⟩
  · have : es = [] := List.eq_nil_of_length_eq_zero h0
    subst this
    exact ⟨none, 0, rfl, Nat.le_refl _, ⟨by simp, fun i hi => by cases hi⟩⟩
  · refine ⟨some ⟨g, 0, none⟩, cap, rfl, hc, hl, fun i hi => ⟨g, 0, rfl, blk_lt hh, fun W hW => ?_⟩⟩
    have hh2 := blk_below hW hh (blk_lt hh)
    have key : ∀ j, j < es.length * 3 → cur[j]? = (edCells es)[j]? := fun j hj => by
      rw [← htake]
      simp [hj]
    obtain ⟨a1, a2, a3⟩ := edCells_at es i hi
    rw [Nat.zero_add]
    refine ⟨?_, ?_, ?_⟩
    · rw [cell_of_row W g (i * 3) cur _ (0, 0) hh2, key _ (by omega), a1]
    · rw [cell_of_row W g (i * 3 + 1) cur _ (0, 0) hh2, key _ (by omega), a2]
    · rw [cell_of_row W g (i * 3 + 2) cur _ (0, 0) hh2, key _ (by omega), a3]

set_option maxRecDepth 100000 in
theorem branch10_any (x y : Int) (w : World) : Calls Tryd.prog 37 #[.int .i64 x, .int .i64 y] w (Fresh w (.agg #[.slice none 0 0, .int .i64 2, .int .i64 1, .int .i64 x, .int .i64 y])) := by
  go_enter Tryd.func37, Tryd.ntmps37
  go_wp2
  exact bodyPost_ret (results_cell_row rfl _ _ _ _ _ _ _ rfl (blk_new w _) Tryd.underlying62 rfl (by kernel_rfl)) rfl ⟨rfl, (Below.refl _ _).alloc (Nat.le_refl _) _⟩
set_option maxRecDepth 100000 in
theorem jump10_any (x : Int) (w : World) : Calls Tryd.prog 38 #[.int .i64 x] w (Fresh w (.agg #[.slice none 0 0, .int .i64 1, .int .i64 0, .int .i64 x, .int .i64 0])) := by
  go_enter Tryd.func38, Tryd.ntmps38
  go_wp2
  exact bodyPost_ret (results_cell_row rfl _ _ _ _ _ _ _ rfl (blk_new w _) Tryd.underlying62 rfl (by kernel_rfl)) rfl ⟨rfl, (Below.refl _ _).alloc (Nat.le_refl _) _⟩
set_option maxRecDepth 100000 in
theorem trap10_any (w : World) : Calls Tryd.prog 39 #[] w (Fresh w (.agg #[.slice none 0 0, .int .i64 4, .int .i64 0, .int .i64 0, .int .i64 0])) := by
  go_enter Tryd.func39, Tryd.ntmps39
  go_wp2
  exact bodyPost_ret (results_cell_row rfl _ _ _ _ _ _ _ rfl (blk_new w _) Tryd.underlying62 rfl (by kernel_rfl)) rfl ⟨rfl, (Below.refl _ _).alloc (Nat.le_refl _) _⟩

/-- The example's blocks. -/
def bs10 : List Blk := [⟨.slice none 0 0, ⟨2, 1, 1, 2⟩⟩, ⟨.slice none 0 0, ⟨1, 0, 2, 0⟩⟩, ⟨.slice none 0 0, ⟨4, 0, 0, 0⟩⟩]
theorem closed10 : closedB bs10 = true := by kernel_rfl
theorem crit10 : someE bs10 (critB (edgesOf bs10)) = [⟨0, 1, 2⟩] := by kernel_rfl
theorem all10 : (someE bs10 fun _ => true).length = 3 := by kernel_rfl
theorem order10 : OrderIs bs10 [0, 1, 2] := by
  have e0 : suB bs10 0 = [1, 2] := by kernel_rfl
  have e1 : suB bs10 1 = [2] := by kernel_rfl
  have e2 : suB bs10 2 = [] := by kernel_rfl
  refine ⟨⟨withI (withI (withI 0 0) 1) 2, [0, 1, 2]⟩, ?_, rfl⟩
  refine .go (by kernel_rfl) (s1 := ⟨withI (withI (withI 0 0) 1) 2, [1, 2]⟩) ?_ (.nil _)
  rw [e0]
  refine .go (by kernel_rfl) (s1 := ⟨withI (withI (withI 0 0) 1) 2, [2]⟩) ?_ (.skip (by kernel_rfl) (.nil _))
  rw [e1]
  refine .go (by kernel_rfl) (s1 := ⟨withI (withI (withI 0 0) 1) 2, []⟩) ?_ (.nil _)
  rw [e2]
  exact .nil _
theorem order10_eq {l : List Int} (h : OrderIs bs10 l) : l = [0, 1, 2] := by
  obtain ⟨s, hs, rfl⟩ := h
  obtain ⟨s', hs', e⟩ := order10
  rw [← e, Thr.det hs hs']

theorem rf_lit {w : World} {g : Nat} {bs : List Blk} {cs : Array Value} {t : TypeId} (h : w.heap[g]? = some (.cells cs t (0, 0))) (hok : OkBs bs) (hone : ∀ i, i < bs.length → (gB bs i).ins.oneCell' = true) (hl : bs.length ≤ 4)
    (hc : ∀ k, k < 5 * bs.length → cs[k]? = some ((gB bs (k / 5)).cell (k % 5))) : RF w (some ⟨g, 0, none⟩) bs := by
  refine ⟨by omega, hok, hone, fun _ => ⟨g, 0, rfl, blk_lt h, fun k hk => ?_⟩⟩
  rw [cell_of_row w g _ cs t (0, 0) h, Nat.zero_add]
  exact hc k hk

set_option maxRecDepth 100000 in
set_option maxHeartbeats 1000000 in
theorem awake10_any (w : World) : Calls Tryd.prog 21 #[] w (Fresh w (.bool true)) := by
  go_enter Tryd.func21, Tryd.ntmps21
  go_wp2_with fail
  refine (branch10_any 1 2 w).mono ?_
  rintro e W1 ⟨rfl, hb1⟩
  go_wp2_with fail
  refine (jump10_any 2 _).mono ?_
  rintro e W2 ⟨rfl, hb2⟩
  go_wp2_with fail
  refine (trap10_any _).mono ?_
  rintro e W3 ⟨rfl, hb3⟩
  have hB3 := hb1.trans ((hb2.trans (hb3.mono hb2.size)).mono hb1.size)
  clear hb1 hb2 hb3
  go_wp2_with fail
  have hbl := blk_new W3 (.cells #[.slice none 0 0, .int .i64 2, .int .i64 1, .int .i64 1, .int .i64 2, .slice none 0 0, .int .i64 1, .int .i64 0, .int .i64 2, .int .i64 0, .slice none 0 0, .int .i64 4, .int .i64 0, .int .i64 0, .int .i64 0] 62)
  have hbf := blk_new (W3.alloc (.cells #[.slice none 0 0, .int .i64 2, .int .i64 1, .int .i64 1, .int .i64 2, .slice none 0 0, .int .i64 1, .int .i64 0, .int .i64 2, .int .i64 0, .slice none 0 0, .int .i64 4, .int .i64 0, .int .i64 0, .int .i64 0] 62)) (.cells #[.slice none 0 0, .slice (some ⟨W3.heap.size, 0, none⟩) 3 3] 38)
  rw [World.size_alloc] at hbf
  have hbl2 := (blk_old _ (.cells #[.slice none 0 0, .slice (some ⟨W3.heap.size, 0, none⟩) 3 3] 38) (blk_lt hbl)).trans hbl
  have hB4 := (hB3.alloc hB3.size (.cells #[.slice none 0 0, .int .i64 2, .int .i64 1, .int .i64 1, .int .i64 2, .slice none 0 0, .int .i64 1, .int .i64 0, .int .i64 2, .int .i64 0, .slice none 0 0, .int .i64 4, .int .i64 0, .int .i64 0, .int .i64 0] 62)).alloc (by have := hB3.size; simp; omega) (.cells #[.slice none 0 0, .slice (some ⟨W3.heap.size, 0, none⟩) 3 3] 38)
  have hrf := rf_lit (bs := bs10) hbl2 (by
    intro i hi
    match i, hi with
    | 0, _ => exact ⟨⟨by decide, by decide⟩, ⟨by decide, by decide⟩, ⟨by decide, by decide⟩, ⟨by decide, by decide⟩⟩
    | 1, _ => exact ⟨⟨by decide, by decide⟩, ⟨by decide, by decide⟩, ⟨by decide, by decide⟩, ⟨by decide, by decide⟩⟩
    | 2, _ => exact ⟨⟨by decide, by decide⟩, ⟨by decide, by decide⟩, ⟨by decide, by decide⟩, ⟨by decide, by decide⟩⟩)
    (by
      intro i hi
      match i, hi with
      | 0, _ => rfl
      | 1, _ => rfl
      | 2, _ => rfl) (by decide) (by
      intro k hk
      match k, hk with
      | 0, _ | 1, _ | 2, _ | 3, _ | 4, _ | 5, _ | 6, _ | 7, _ | 8, _ | 9, _ | 10, _ | 11, _ | 12, _ | 13, _ | 14, _ => rfl)
  clear hbl hbl2 hB3
  generalize (W3.alloc _).alloc _ = W4 at *
  generalize W3.heap.size = g at *
  have qc := Critical_any (.slice none 0 0) (some ⟨g, 0, none⟩) 3 bs10 W4 hrf
  rw [crit10] at qc
  refine qc.mono ?_
  clear qc
  rintro e W5 ⟨v, rfl, ho5, hn5, hb5⟩
  obtain ⟨A5, c5, rfl, hc5, hE5⟩ := own_RE ho5 (by decide)
  have hbf5 := blk_below hb5 hbf (blk_lt hbf)
  have hB5 := hB4.trans (hb5.mono hB4.size)
  go_wp2_with (refine wpList_load_row rfl _ _ rfl _ rfl _ _ _ _ hbf5 Tryd.underlying38 rfl (by kernel_rfl) ?_)
  refine (Order_yes (.slice none 0 0) (some ⟨g, 0, none⟩) 3 bs10 W5 (hrf.below hb5) closed10).mono ?_
  rintro e W6 ⟨l, rb, off, hl, rfl, hrow, hrb, hb6⟩
  obtain rfl := order10_eq hl
  have hbf6 := blk_below hb6 hbf5 (blk_lt hbf5)
  have hB6 := hB5.trans (hb6.mono hB5.size)
  have hE6 := hE5.below hb6
  go_wp2_with fail
  have hbA := (Below.refl W6.heap.size W6).alloc (Nat.le_refl _) (.cells #[.int .i64 0, .int .i64 1, .int .i64 2] 3)
  have qs := SameInts_any (some ⟨rb, off, none⟩) (some ⟨W6.heap.size, 0, none⟩) 3 3 [0, 1, 2] [0, 1, 2] _ (hrow.RI.below hbA) (RI_lit (blk_new W6 (.cells #[.int .i64 0, .int .i64 1, .int .i64 2] 3)) (by intro x hx; simp at hx; rcases hx with rfl | rfl | rfl <;> exact ⟨by decide, by decide⟩) (by decide))
  rw [show decide (([0, 1, 2] : List Int) = [0, 1, 2]) = true from rfl] at qs
  refine qs.mono ?_
  clear qs
  rintro e W7 ⟨rfl, hb7⟩
  have hb7' := hbA.trans (hb7.mono hbA.size)
  have hbf7 := blk_below hb7' hbf6 (blk_lt hbf6)
  have hB7 := hB6.trans (hb7'.mono hB6.size)
  obtain ⟨b, o, rfl, hbb, hcc⟩ := (hE6.below hb7').rd 0 (by decide)
  obtain ⟨x0, x1, x2⟩ := hcc W7 (Below.refl _ _)
  simp only [Nat.zero_mul, Nat.add_zero, gE, List.getElem?_cons_zero, Option.getD_some] at x0 x1 x2
  have heq : ∀ W, (binOp .eql 47 (.agg #[.int .i64 0, .int .i64 1, .int .i64 2]) (.agg #[.int .i64 0, .int .i64 1, .int .i64 2])).run Tryd.prog W = .ok (.bool true) W := fun W => by kernel_rfl
  clear hcc hb7 hbA hrow hE6 hE5
  go_wp2_with (refine wpList_load_rowG rfl _ _ rfl _ rfl _ _ _ _ hbf7 Tryd.underlying38 rfl (by kernel_rfl) ?_)
  refine (Edges_any (.slice none 0 0) (some ⟨g, 0, none⟩) 3 bs10 W7 ((hrf.below hb5).below (hb6.trans (hb7'.mono hb6.size)))).mono ?_
  rintro e W8 ⟨v8, rfl, ho8, hn8, hb8⟩
  obtain ⟨A8, c8, rfl⟩ := own_form ho8
  rw [all10]
  go_wp2
  go_ret
  exact ⟨rfl, hB7.trans (hb8.mono hB7.size)⟩

end Go.Proofs.YtjichaeegheacaaDoor
