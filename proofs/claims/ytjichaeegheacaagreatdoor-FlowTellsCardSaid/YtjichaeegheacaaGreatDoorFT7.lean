/-
  Critical
-/
import Derived.Test.YtjichaeegheacaaGreatDoorFT6
import Derived.Maps.OwnIn
import Derived.Maps.OwnOps
import Derived.Maps.OwnSet
import Derived.Maps.Views
import Derived.Laws.EntriesVeiled

/-
  Package flow: Critical.
-/
namespace Go.Proofs.YtjichaeegheacaaGreatDoor
open Go Go.RowKit Go.Maps
attribute [local go_sem] Oper.semAt_some

/-- How many edges have this at x. -/
def cntE (g : Ed → Int) (es : List Ed) (x : Int) : Nat := (es.filter fun e => decide (g e = x)).length
theorem cntE_snoc (g : Ed → Int) (es : List Ed) (e : Ed) (x : Int) : cntE g (es ++ [e]) x = cntE g es x + if g e = x then 1 else 0 := by
  unfold cntE
  rw [List.filter_append, List.length_append]
  by_cases h : g e = x <;> simp [h]
theorem cntE_le (g : Ed → Int) (es : List Ed) (x : Int) : cntE g es x ≤ es.length := List.length_filter_le _ _

/-- What a map of counts reads. -/
def Tal (D : DataW Unit) (g : Ed → Int) (es : List Ed) : Prop := ∀ x, I64 x → D.atKey (.int .i64 x) (.lit (.int .i64 0)) = .lit (.int .i64 (cntE g es x))
theorem wf_of {x : Int} (h : I64 x) : (Lit.int .i64 x).wf = true := by obtain ⟨h1, h2⟩ := h; exact WalkArith.wf_i64 (by omega)
theorem Tal.nil (g : Ed → Int) : Tal (.map []) g [] := fun _ _ => rfl
theorem Tal.snoc {D : DataW Unit} {g : Ed → Int} {es : List Ed} (h : Tal D g es) (hm : IsMap D) {e : Ed} {c : Int} (he : I64 (g e)) (hc : D.atKey (.int .i64 (g e)) (.lit (.int .i64 0)) = .lit (.int .i64 c)) :
    c = cntE g es (g e) ∧ Tal (D.put (.int .i64 (g e)) (.lit (.int .i64 (c + 1)))) g (es ++ [e]) := by
  have hcc : c = cntE g es (g e) := by
    have := (h _ he).symm.trans hc
    injection this with this
    injection this with _ this
    exact this.symm
  refine ⟨hcc, fun x hx => ?_⟩
  rw [cntE_snoc]
  by_cases hq : g e = x
  · subst hq
    rw [atKey_put_same hm (show WideAt.IsKeyLit (.int .i64 (g e)) from trivial), if_pos rfl, hcc]
    congr 2
  · rw [atKey_put_other (fun q => hq (by injection q with _ q; exact q.symm)), h x hx, if_neg hq]
    rfl

theorem Tal.bd {D : DataW Unit} {g : Ed → Int} {es : List Ed} (h : Tal D g es) {x c : Int} (hx : I64 x) (hc : D.atKey (.int .i64 x) (.lit (.int .i64 0)) = .lit (.int .i64 c)) : 0 ≤ c ∧ c ≤ es.length := by
  have := (h x hx).symm.trans hc
  injection this with this
  injection this with _ this
  have := cntE_le g es x
  omega

theorem zeroInt (w : World) : (zeroValue 3).run Tryz.prog w = .ok (.int .i64 0) w := by kernel_rfl

/-- Is an edge critical? -/
def critB (es : List Ed) (e : Ed) : Bool := decide (1 < cntE (·.t) es e.t) && decide (1 < cntE (·.f) es e.f)

set_option maxRecDepth 100000 in
theorem run_lookup_tal {D : DataW Unit} {g : Ed → Int} {es : List Ed} {w : World} {b n : Nat} (ho : w.ownsMap Tryz.prog 3 (plainElem (H := Unit) Tryz.prog 3) b n D) (h : Tal D g es) {x : Int} (hx : I64 x) :
    (Instr.lookup 67 (.map (some b)) (.int .i64 x) false).run Tryz.prog w = .ok (.int .i64 (cntE g es x)) w := by
  obtain ⟨c, h1, h2, _⟩ := ho.lookup_int (Maps.int_keyed Tryz.underlying3) Tryz.underlying67 Tryz.underlying3 (zeroInt w) (Maps.keyOf_int_mk Tryz.underlying3 (wf_of hx))
  have := (h x hx).symm.trans h2
  injection this with this
  injection this with _ this
  rw [h1, this]

set_option maxRecDepth 100000 in
set_option maxHeartbeats 1000000 in
theorem critLit_any (x : Ed) (hx1 : I64 x.f) (hx3 : I64 x.t) (bi bo mi mo n : Nat) (D1 D2 : DataW Unit) (es : List Ed) (W : World) (h1 : W.heap[bi]? = some (.cells #[.map (some mi)] 67 (0, 0))) (h2 : W.heap[bo]? = some (.cells #[.map (some mo)] 67 (0, 0)))
    (ho1 : W.ownsMap Tryz.prog 3 (plainElem (H := Unit) Tryz.prog 3) mi n D1) (ho2 : W.ownsMap Tryz.prog 3 (plainElem (H := Unit) Tryz.prog 3) mo n D2) (ht1 : Tal D1 (·.t) es) (ht2 : Tal D2 (·.f) es) :
    Calls Tryz.prog 56 #[.agg (Ed.val x), .pointer (some ⟨bi, 0, none⟩), .pointer (some ⟨bo, 0, none⟩)] W (fun e W' => e = .returned (.bool (critB es x)) ∧ Below W.heap.size W W') := by
  have hb0 := (Below.refl W.heap.size W).alloc (Nat.le_refl _) (.cells #[.int .i64 x.f, .int .i64 x.a, .int .i64 x.t] 58)
  have c1 := cell_of_one (blk_below hb0 h1 (blk_lt h1))
  have c2 := cell_of_one (blk_below hb0 h2 (blk_lt h2))
  have r1 := run_lookup_tal (ho1.alloc (.cells #[.int .i64 x.f, .int .i64 x.a, .int .i64 x.t] 58)) ht1 hx3
  have r2 := run_lookup_tal (ho2.alloc (.cells #[.int .i64 x.f, .int .i64 x.a, .int .i64 x.t] 58)) ht2 hx1
  unfold critB
  generalize cntE (·.t) es x.t = ct at *
  generalize cntE (·.f) es x.f = cf at *
  unfold Ed.val
  by_cases q1 : 1 < ct
  · have d1 : decide ((ct : Int) > 1) = true := decide_eq_true (by omega)
    by_cases q2 : 1 < cf
    · have d2 : decide ((cf : Int) > 1) = true := decide_eq_true (by omega)
      rw [decide_eq_true q1, decide_eq_true q2]
      go_enter Tryz.func56, Tryz.ntmps56
      go_wp2
      go_ret
      exact ⟨rfl, hb0⟩
    · have d2 : decide ((cf : Int) > 1) = false := decide_eq_false (by omega)
      rw [decide_eq_true q1, decide_eq_false q2]
      go_enter Tryz.func56, Tryz.ntmps56
      go_wp2
      go_ret
      exact ⟨rfl, hb0⟩
  · have d1 : decide ((ct : Int) > 1) = false := decide_eq_false (by omega)
    rw [decide_eq_false q1, Bool.false_and]
    go_enter Tryz.func56, Tryz.ntmps56
    go_wp2
    go_ret
    exact ⟨rfl, hb0⟩

abbrev OwnM (W : World) (b n : Nat) (D : DataW Unit) : Prop := W.ownsMap Tryz.prog 3 (plainElem (H := Unit) Tryz.prog 3) b n D
/-- The two maps, after some edges. -/
def Tallied (mi mo : Nat) (pre : List EdI) (W : World) : Prop :=
  ∃ D1 D2, OwnM W mi pre.length D1 ∧ OwnM W mo pre.length D2 ∧ Tal D1 (·.t) (unE pre) ∧ Tal D2 (·.f) (unE pre)

set_option maxRecDepth 100000 in
set_option maxHeartbeats 4000000 in
theorem Critical_any (P : Value) (A : Option Addr) (c : Nat) (bs : List Blk) (w : World) (hr : RF w A bs) :
    Calls Tryz.prog 20 #[.agg #[P, .slice A bs.length c]] w (FreshEds w (someE bs (critB (edgesOf bs)))) := by
  refine (callsIn_wide (n := 5)).1 ?_
  have hmm := @run_makeMap Tryz.prog
  refine callsIn_of_wp_marks Tryz.func20 rfl trivial ?_ rfl
  simp only [Tryz.ntmps20, List.size_toArray, List.length_cons, List.length_nil, Nat.reduceAdd, Nat.reduceSub, Array.replicate_succ, Array.replicate_zero, List.push_toArray, List.append_toArray, List.nil_append, List.cons_append]
  gi_wp2
  refine ⟨trivial, ?_⟩
  refine (flowEach_in _ _ _ _).mono ?_
  rintro e w' ⟨rfl, rfl⟩
  obtain ⟨W5, hW5⟩ : ∃ W5, (((((w.alloc (.cells #[P, .slice A bs.length c] 25)).alloc (.map #[] 0)).alloc (.map #[] 0)).alloc (.cells #[.map (some (w.heap.size + 1))] 67)).alloc (.cells #[.map (some (w.heap.size + 1 + 1))] 67)).alloc (.cells #[P, .slice A bs.length c] 25) = W5 := ⟨_, rfl⟩
  have hsz5 : W5.heap.size = w.heap.size + 1 + 1 + 1 + 1 + 1 + 1 := by rw [← hW5]; simp
  have hB5 : Below w.heap.size w W5 := by
    rw [← hW5]
    exact ((((((Below.refl _ w).alloc (Nat.le_refl _) _).alloc (by simp) _).alloc (by simp; omega) _).alloc (by simp; omega) _).alloc (by simp; omega) _).alloc (by simp; omega) _
  have hfun : W5.heap[w.heap.size]? = some (.cells #[P, .slice A bs.length c] 25 (0, 0)) := by
    rw [← hW5]
    exact (blk_old _ _ (by simp; omega)).trans ((blk_old _ _ (by simp; omega)).trans ((blk_old _ _ (by simp; omega)).trans ((blk_old _ _ (by simp; omega)).trans ((blk_old _ _ (by simp)).trans (blk_new w _)))))
  have hbi : W5.heap[w.heap.size + 1 + 1 + 1]? = some (.cells #[.map (some (w.heap.size + 1))] 67 (0, 0)) := by
    rw [← hW5]
    have := blk_new (((w.alloc (.cells #[P, .slice A bs.length c] 25)).alloc (.map #[] 0)).alloc (.map #[] 0)) (.cells #[.map (some (w.heap.size + 1))] 67)
    simp only [World.size_alloc] at this
    exact (blk_old _ _ (by simp)).trans ((blk_old _ _ (by simp)).trans this)
  have hbo : W5.heap[w.heap.size + 1 + 1 + 1 + 1]? = some (.cells #[.map (some (w.heap.size + 1 + 1))] 67 (0, 0)) := by
    rw [← hW5]
    have := blk_new ((((w.alloc (.cells #[P, .slice A bs.length c] 25)).alloc (.map #[] 0)).alloc (.map #[] 0)).alloc (.cells #[.map (some (w.heap.size + 1))] 67)) (.cells #[.map (some (w.heap.size + 1 + 1))] 67)
    simp only [World.size_alloc] at this
    exact (blk_old _ _ (by simp)).trans this
  have hbf : W5.heap[w.heap.size + 1 + 1 + 1 + 1 + 1]? = some (.cells #[P, .slice A bs.length c] 25 (0, 0)) := by
    rw [← hW5]
    have := blk_new (((((w.alloc (.cells #[P, .slice A bs.length c] 25)).alloc (.map #[] 0)).alloc (.map #[] 0)).alloc (.cells #[.map (some (w.heap.size + 1))] 67)).alloc (.cells #[.map (some (w.heap.size + 1 + 1))] 67)) (.cells #[P, .slice A bs.length c] 25)
    simp only [World.size_alloc] at this
    exact this
  have hm1 : OwnM W5 (w.heap.size + 1) 0 (.map []) := by
    rw [← hW5]
    have := World.ownsMap_made (w.alloc (.cells #[P, .slice A bs.length c] 25)) Tryz.prog 3 (plainElem (H := Unit) Tryz.prog 3)
    rw [World.size_alloc] at this
    exact (((this.alloc _).alloc _).alloc _).alloc _
  have hm2 : OwnM W5 (w.heap.size + 1 + 1) 0 (.map []) := by
    rw [← hW5]
    have := World.ownsMap_made ((w.alloc (.cells #[P, .slice A bs.length c] 25)).alloc (.map #[] 0)) Tryz.prog 3 (plainElem (H := Unit) Tryz.prog 3)
    simp only [World.size_alloc] at this
    exact ((this.alloc _).alloc _).alloc _
  gi_wp2
  try rw [hW5]
  clear hW5 hmm
  refine wpIn_rangeFunc_ownH rfl (by omega) (gf := 81) (lb := #[.pointer (some ⟨w.heap.size + 1 + 1 + 1 + 1 + 1, 0, none⟩)]) rfl trivial (enters_of Tryz.func81 (by kernel_rfl) rfl)
    (flowEach_stopsI (5 - 1) (by omega) (w.heap.size + 1 + 1 + 1 + 1 + 1) P A c bs w hr (fun e he => edge_i64 hr.ok hr.len he) _ hB5 hbf) (fun h k => ⟨h.1.trans k.1, h.2.trans k.2⟩) (fun W l o o' hl h ho hw => ⟨belowK_b (n₀ := w.heap.size) hB5.size W l o o' hl h ho hw, keepE_b W l o o' h ho⟩) (Below.refl _ _) (fun _ => rfl)
    (fun (pre : List EdI) W => ((Tallied (w.heap.size + 1) (w.heap.size + 1 + 1) pre W ∧ W.heap[w.heap.size + 1 + 1 + 1]? = some (.cells #[.map (some (w.heap.size + 1))] 67 (0, 0))) ∧ W.heap[w.heap.size + 1 + 1 + 1 + 1]? = some (.cells #[.map (some (w.heap.size + 1 + 1))] 67 (0, 0)) ∧ W.heap[w.heap.size]? = some (.cells #[P, .slice A bs.length c] 25 (0, 0))) ∧ Below w.heap.size w W)
    (fun _ _ _ => False)
    ?hI (fun _ _ _ _ _ hs _ _ => hs) ⟨⟨⟨⟨_, _, hm1, hm2, Tal.nil _, Tal.nil _⟩, hbi⟩, hbo, hfun⟩, hB5⟩
    (fun x a' W => ∃ g, w.heap.size ≤ g ∧ W.heap[g]? = some (.cells #[.int .i64 x.1.f, .int .i64 x.1.a, .int .i64 x.1.t] 58 (0, 0)) ∧ a' = { tmps := #[.agg #[P, .slice A bs.length c], .pointer (some ⟨w.heap.size, 0, none⟩), .slice none 0 0, .pointer (some ⟨w.heap.size + 1 + 1 + 1, 0, none⟩), .pointer (some ⟨w.heap.size + 1 + 1 + 1 + 1, 0, none⟩), .pointer (some ⟨g, 0, none⟩), .map (some (w.heap.size + 1)), .map (some (w.heap.size + 1 + 1)), .agg #[P, .slice A bs.length c], .func (.func 81) #[] #[.pointer (some ⟨w.heap.size + 1 + 1 + 1 + 1 + 1, 0, none⟩)], .agg (Ed.val x.1), undef, undef, undef, undef, undef, undef, undef, undef, undef, undef, undef, undef, undef], defers := [] })
    ?hAx ?assign ?body ?done ?stop
  case hI =>
    refine OwnFrom.and (OwnFrom.and (OwnFrom.and ?_ (ownCells _ _ _ _)) (OwnFrom.and (ownCells _ _ _ _) (ownCells _ _ _ _))) (ownFrom_below (Nat.le_refl _) hB5.size)
    rintro s W W' row ⟨D1, D2, o1, o2, t1, t2⟩ hg hr
    exact ⟨D1, D2, o1.kept hg (fun e => by have := (hr _ e.symm).1; omega), o2.kept hg (fun e => by have := (hr _ e.symm).1; omega), t1, t2⟩
  case hAx =>
    intro x a' s W W' row hs hg hr
    obtain ⟨g, hgs, hc, ha⟩ := hs
    exact ⟨g, hgs, ownCells (β := Unit) g _ _ _ () W W' row hc hg hr, ha⟩
  case assign =>
    intro l pre x W K hi hK
    have hz := blk_new W (.cells #[.int .i64 0, .int .i64 0, .int .i64 0] 58)
    gi_wp2_with (refine wpListIn_store_row rfl _ _ _ rfl W.heap.size (Ed.val x.1) rfl rfl _ _ hz (by kernel_rfl) rfl (by simp [Ed.val, int_one]) ?_)
    show K _ _
    have hg0 : W.grownBy ((W.alloc (.cells #[.int .i64 0, .int .i64 0, .int .i64 0] 58)).setRow W.heap.size (Ed.val x.1)) none := below_grown (below_setRow ((Below.refl _ W).alloc (Nat.le_refl _) _) (Nat.le_refl _) _)
    have hB := hi.2
    obtain ⟨⟨⟨⟨D1, D2, o1, o2, t1, t2⟩, hi1⟩, hi2, hi3⟩, _⟩ := hi
    refine hK _ _ (KeepsFrom.of_grownBy hg0 (fun j e => by cases e)) ⟨(Below.refl _ W).grown hg0 hB.size (fun k e => by cases e), ⟨hg0.size, fun k c t h _ => (hg0.block k (blk_lt h) (by simp)).trans h⟩⟩ ?_ ⟨W.heap.size, hB.size, blk_setRow hz, rfl⟩
    exact ⟨⟨⟨⟨D1, D2, o1.kept hg0 (by simp), o2.kept hg0 (by simp), t1, t2⟩, (hg0.block _ (blk_lt hi1) (by simp)).trans hi1⟩, (hg0.block _ (blk_lt hi2) (by simp)).trans hi2, (hg0.block _ (blk_lt hi3) (by simp)).trans hi3⟩, hB.trans ((Below.refl _ W).grown hg0 hB.size (fun k e => by cases e))⟩
  case body =>
    rintro l pre ⟨x, hx1, hx2, hx3⟩ a' W hl hL ⟨⟨⟨⟨D1, D2, o1, o2, t1, t2⟩, hi1⟩, hi2, hi3⟩, hB⟩ ⟨g, hgs, hgc, rfl⟩ hlt
    simp only at hgc
    have hlen := hr.len
    have hgm : some g ≠ some (w.heap.size + 1) := fun e => by
      cases e
      obtain ⟨es, ck, hh, _⟩ := o1
      rw [hgc] at hh; cases hh
    have hM1 := o1.isMap
    have hM2 := o2.isMap
    have hkT := Maps.keyOf_int_mk Tryz.underlying3 (wf_of hx3)
    have hkF := Maps.keyOf_int_mk Tryz.underlying3 (wf_of hx1)
    have q1 := cell_of_one hi1
    have q2 := cell_of_row _ _ 2 _ _ _ hgc
    simp at q2
    have hbiw := blk_lt hi1
    have hbow := blk_lt hi2
    rw [← unE_len] at hlt
    have hpl := unE_len pre
    have hpl' := Lib.hid hpl
    clear hpl
    gi_wp2_with (first
      | (gi_at_lookup; refine wpListIn_lookup_own_int _ rfl _ _ 67 rfl 3 3 .i64 (Maps.int_keyed Tryz.underlying3) Tryz.underlying67 Tryz.underlying3 (zeroInt _) (w.heap.size + 1) pre.length _ rfl o1 _ _ rfl hkT ?_; intro c1 hat1 hwc1; obtain ⟨b1, b2⟩ := t1.bd hx3 hat1)
      | (gi_at_mapUpdate; refine wpListIn_mapUpdate_own _ rfl _ _ _ 67 rfl 3 3 (Maps.int_keyed Tryz.underlying3) Tryz.underlying67 _ (w.heap.size + 1) pre.length _ rfl o1 (by have := hpl'.out; unfold maxLen; omega) _ _ _ rfl rfl hkT _ [] (plainElem_int Tryz.underlying3 (WalkArith.wf_i64 (by omega))) ?_; intro w1 o1' hgrow1; have o2' := o2.kept hgrow1 (by simp); have q3 := cell_of_one ((hgrow1.block _ hbow (by simp; omega)).trans hi2); have q4 := cell_of_row _ _ 0 _ _ _ ((hgrow1.block _ (blk_lt hgc) hgm).trans hgc); simp at q4)
      | (gi_at_lookup; refine wpListIn_lookup_own_int _ rfl _ _ 67 rfl 3 3 .i64 (Maps.int_keyed Tryz.underlying3) Tryz.underlying67 Tryz.underlying3 (zeroInt _) (w.heap.size + 1 + 1) pre.length _ rfl o2' _ _ rfl hkF ?_; intro c2 hat2 hwc2; obtain ⟨b3, b4⟩ := t2.bd hx1 hat2)
      | (gi_at_mapUpdate; refine wpListIn_mapUpdate_own _ rfl _ _ _ 67 rfl 3 3 (Maps.int_keyed Tryz.underlying3) Tryz.underlying67 _ (w.heap.size + 1 + 1) pre.length _ rfl o2' (by have := hpl'.out; unfold maxLen; omega) _ _ _ rfl rfl hkF _ [] (plainElem_int Tryz.underlying3 (WalkArith.wf_i64 (by omega))) ?_; intro w2 o2'' hgrow2))
    have hgg : W.grownBy w1 (some (w.heap.size + 1)) := hgrow1
    have hbel1 : Below w.heap.size W w1 := (Below.refl _ W).grown hgrow1 hB.size (fun k e => by cases e; exact Nat.le_succ _)
    have hB1 := hB.trans hbel1
    have hbel2 : Below w.heap.size w1 w2 := (Below.refl _ w1).grown hgrow2 hB1.size (fun k e => by cases e; omega)
    obtain ⟨es1, ck1, hh1, _⟩ := o1
    obtain ⟨es2, ck2, hh2, _⟩ := o2'
    have hk1 : KeepE W w1 := ⟨hgrow1.size, fun k c t h _ => (hgrow1.block k (blk_lt h) (fun e => by cases e; rw [h] at hh1; cases hh1)).trans h⟩
    have hk2 : KeepE w1 w2 := ⟨hgrow2.size, fun k c t h _ => (hgrow2.block k (blk_lt h) (fun e => by cases e; rw [h] at hh2; cases hh2)).trans h⟩
    have hs1 := (t1.snoc hM1 hx3 hat1).2
    have hs2 := (t2.snoc hM2 hx1 hat2).2
    have hsn := unE_snoc pre ⟨x, hx1, hx2, hx3⟩
    refine ⟨(KeepsFrom.of_grownBy hgrow1 (fun j e => by cases e; omega)).trans (KeepsFrom.of_grownBy hgrow2 (fun j e => by cases e; omega)), ⟨hbel1.trans hbel2, hk1.trans hk2⟩, ⟨⟨⟨D1.put (.int .i64 x.t) (.lit (.int .i64 (c1 + 1))), D2.put (.int .i64 x.f) (.lit (.int .i64 (c2 + 1))), ?_, ?_, ?_, ?_⟩, ?_⟩, ?_, ?_⟩, hB1.trans hbel2⟩
    · rw [List.length_append]; exact o1'.kept hgrow2 (by simp)
    · rw [List.length_append]; exact o2''
    · rw [hsn]; exact hs1
    · rw [hsn]; exact hs2
    · refine (hgrow2.block _ (Nat.lt_of_lt_of_le hbiw hgrow1.size) (by simp)).trans ((hgrow1.block _ hbiw (by simp; omega)).trans hi1)
    · refine (hgrow2.block _ (Nat.lt_of_lt_of_le hbow hgrow1.size) (by simp; omega)).trans ((hgrow1.block _ hbow (by simp; omega)).trans hi2)
    · exact (hk1.trans hk2).same _ _ _ hi3 (.inr (.inr rfl))
  case done =>
    rintro D ys W hD hys ⟨⟨⟨⟨D1, D2, o1, o2, t1, t2⟩, hi1⟩, hi2, hi3⟩, hB⟩ hK
    rw [hys] at t1 t2
    clear hys
    have hmf : ∀ (fn : Fn) (first cap : Array Value) (w : World), (Instr.makeFunc fn first cap).run Tryz.prog w = .ok (.func fn first cap) w := fun _ _ _ _ => rfl
    have q := some_any P A c bs 56 #[.pointer (some ⟨w.heap.size + 1 + 1 + 1, 0, none⟩), .pointer (some ⟨w.heap.size + 1 + 1 + 1 + 1, 0, none⟩)] (critB (edgesOf bs)) W (hr.below hB) (run_callFunc_own (by kernel_rfl))
      (fun x W' h1 h3 hW => critLit_any x h1 h3 (w.heap.size + 1 + 1 + 1) (w.heap.size + 1 + 1 + 1 + 1) (w.heap.size + 1) (w.heap.size + 1 + 1) ys.length D1 D2 (edgesOf bs) W' (blk_below hW hi1 (blk_lt hi1)) (blk_below hW hi2 (blk_lt hi2)) (o1.kept (below_grown hW) (by simp)) (o2.kept (below_grown hW) (by simp)) t1 t2)
    gi_wp2_with (refine wpListIn_load_row rfl _ _ rfl _ rfl _ _ _ _ hi3 Tryz.underlying25 rfl (by kernel_rfl) ?_)
    refine ⟨trivial, ?_⟩
    refine ((callsIn_wide (n := 4)).2 q).mono ?_
    rintro e W2 hf
    have hbW : Below W.heap.size W W2 := by obtain ⟨v, _, _, _, hb⟩ := hf; exact hb
    obtain ⟨v, rfl, ho2, hn2, hb2⟩ := FreshEds.mono hB hf
    have hK2 : W2.heap[D]? = some (.deferred (some [])) := blk_below hbW hK (blk_lt hK)
    gi_wp2
    have hDs : w.heap.size ≤ D := by have := hB5.size; omega
    refine ⟨by simp, .inl ⟨_, _, rfl, run_takeDeferred hK2, ?_⟩⟩
    refine ⟨_, results_tmp rfl _ _ _, v, rfl, ?_, hn2, ?_⟩
    · exact ownsRow_putObj ho2 _ hK2 rfl
    · exact hb2.grown (grownBy_putObj' _ _ _) hb2.size (fun k e => by cases e; exact hDs)
  case stop => intro D cd pre W hD hpre hx; exact hx.elim

end Go.Proofs.YtjichaeegheacaaGreatDoor
