/-
  Closed
-/
import Derived.Test.YtjichaeegheacaaGreatDoorFT2

/-
  Package flow: Closed.
-/

namespace Go.Proofs.YtjichaeegheacaaGreatDoor
open Go Go.RowKit
attribute [local go_sem] Oper.semAt_some

/-- As uint: is t below n? -/
def inN (t : Int) (n : Nat) : Bool := decide (IntKind.u64.wrap t < n)
/-- All of them go to blocks. -/
def allN (es : List Ed) (n : Nat) : Bool := es.all (fun e => inN e.t n)
def closedB (bs : List Blk) : Bool := allN (edgesOf bs) bs.length && (decide (0 < bs.length) && decide (bs.length ≤ 200))

/-- A block of cells is kept by what the loop's law does to its own blocks. -/
theorem ownCells {β : Type} (k : Nat) (c : Array Value) (t : TypeId) (B : Nat) : OwnFrom B (fun (_ : β) W => W.heap[k]? = some (.cells c t (0, 0))) := by
  intro s W W' row hs hg hr
  refine (hg.block k (blk_lt hs) (fun e => ?_)).trans hs
  obtain ⟨_, o, ho, hc⟩ := hr k e.symm
  rw [hs] at ho
  cases ho
  cases hc

set_option maxRecDepth 100000 in
set_option maxHeartbeats 2000000 in
theorem Closed_any (P : Value) (A : Option Addr) (c : Nat) (bs : List Blk) (w : World) (hr : RF w A bs) :
    Calls Tryz.prog 11 #[.agg #[P, .slice A bs.length c]] w (Fresh w (.bool (closedB bs))) := by
  refine (callsIn_wide (n := 5)).1 ?_
  refine callsIn_of_wp_marks Tryz.func11 rfl trivial ?_ rfl
  simp only [Tryz.ntmps11, List.size_toArray, List.length_cons, List.length_nil, Nat.reduceAdd, Nat.reduceSub, Array.replicate_succ, Array.replicate_zero, List.push_toArray, List.append_toArray, List.nil_append, List.cons_append]
  have hs : ((w.alloc (.cells #[P, .slice A bs.length c] 25)).alloc (.cells #[.bool false] 4)).heap[w.heap.size]? = some (.cells #[P, .slice A bs.length c] 25 (0, 0)) := (blk_old _ _ (by simp)).trans (blk_new w _)
  gi_wp2_with (first | (refine wpListIn_load_row rfl _ _ rfl _ rfl _ _ _ _ hs Tryz.underlying25 rfl (by kernel_rfl) ?_) | (refine ⟨trivial, ?_⟩; gi_at_call 50; refine (flowEach_in _ _ _ _).mono ?_; rintro e w' ⟨rfl, rfl⟩))
  have hB0 : Below w.heap.size w (((w.alloc (.cells #[P, .slice A bs.length c] 25)).alloc (.cells #[.bool false] 4)).alloc (.cells #[P, .slice A bs.length c] 25)) := (((Below.refl _ w).alloc (Nat.le_refl _) _).alloc (by simp) _).alloc (by simp; omega) _
  have h3 := blk_new ((w.alloc (.cells #[P, .slice A bs.length c] 25)).alloc (.cells #[.bool false] 4)) (.cells #[P, .slice A bs.length c] 25)
  rw [World.size_alloc, World.size_alloc] at h3
  have hs3 := (blk_old ((w.alloc (.cells #[P, .slice A bs.length c] 25)).alloc (.cells #[.bool false] 4)) (.cells #[P, .slice A bs.length c] 25) (blk_lt hs)).trans hs
  have bO : Boxed (((w.alloc (.cells #[P, .slice A bs.length c] 25)).alloc (.cells #[.bool false] 4)).alloc (.cells #[P, .slice A bs.length c] 25)) (w.heap.size + 1) 4 (.bool false) := by
    have := Boxed.new (w.alloc (.cells #[P, .slice A bs.length c] 25)) 4 (.bool false)
    rw [World.size_alloc] at this
    exact this.alloc _
  refine wpIn_rangeFunc_ownH rfl (by omega) (gf := 81) (lb := #[.pointer (some ⟨w.heap.size + 1 + 1, 0, none⟩)]) rfl trivial (enters_of Tryz.func81 (by kernel_rfl) rfl)
    (flowEach_stops (5 - 1) (by omega) (w.heap.size + 1 + 1) P A c bs w hr _ hB0 h3) (fun h k => ⟨h.1.trans k.1, h.2.trans k.2⟩) (fun W l o o' hl h ho hw => ⟨belowK_b (n₀ := w.heap.size) hB0.size W l o o' hl h ho hw, keepE_b W l o o' h ho⟩) (Below.refl _ _) (fun _ => rfl)
    (fun pre W => ((∃ v, Boxed W (w.heap.size + 1) 4 v ∧ v = .bool false ∧ allN pre bs.length = true) ∧ W.heap[w.heap.size]? = some (.cells #[P, .slice A bs.length c] 25 (0, 0))) ∧ Below w.heap.size w W)
    (fun cd pre W => (Boxed W (w.heap.size + 1) 4 (.bool false) ∧ cd = .ret ∧ allN pre bs.length = false) ∧ Below w.heap.size w W)
    ?hI ?hIx ⟨⟨⟨_, bO, rfl, rfl⟩, hs3⟩, hB0⟩
    (fun x a' W => ∃ g, w.heap.size ≤ g ∧ W.heap[g]? = some (.cells x.val 58 (0, 0)) ∧ a' = { tmps := #[.agg #[P, .slice A bs.length c], .pointer (some ⟨w.heap.size, 0, none⟩), .pointer (some ⟨w.heap.size + 1, 0, none⟩), .pointer (some ⟨g, 0, none⟩), .agg #[P, .slice A bs.length c], .func (.func 81) #[] #[.pointer (some ⟨w.heap.size + 1 + 1, 0, none⟩)], .agg x.val, undef, undef, undef, undef, undef, undef, undef, undef, undef, undef, undef, undef, undef, undef, undef, undef, undef, undef], defers := [] })
    ?hAx ?assign ?body ?done ?stop
  case hI =>
    exact OwnFrom.and (OwnFrom.and (Own.from (fun s A' B' row hs hg hr => by
      obtain ⟨v, hv, he, hp⟩ := hs
      exact ⟨v, hv.kept hg (fun e' => by obtain ⟨o, ho, hc⟩ := hr _ e'.symm; rw [show A'.heap[w.heap.size + 1]? = _ from hv] at ho; cases ho; cases hc), he, hp⟩) _) (ownCells _ _ _ _)) (ownFrom_below (Nat.le_refl _) (by simp; omega))
  case hIx =>
    intro cd
    exact OwnFrom.and (Own.from (fun s A' B' row hs hg hr => by
      obtain ⟨hv, hp⟩ := hs
      exact ⟨hv.kept hg (fun e' => by obtain ⟨o, ho, hc⟩ := hr _ e'.symm; rw [show A'.heap[w.heap.size + 1]? = _ from hv] at ho; cases ho; cases hc), hp⟩) _) (ownFrom_below (Nat.le_refl _) (by simp; omega))
  case hAx =>
    intro x a' s W W' row hs hg hr
    obtain ⟨g, hgs, hc, ha⟩ := hs
    exact ⟨g, hgs, ownCells (β := Unit) g _ _ _ () W W' row hc hg hr, ha⟩
  case assign =>
    intro l pre x W K hi hK
    have hz := blk_new W (.cells #[.int .i64 0, .int .i64 0, .int .i64 0] 58)
    gi_wp2_with (refine wpListIn_store_row rfl _ _ _ rfl W.heap.size x.val rfl rfl _ _ hz (by kernel_rfl) rfl (by simp [Ed.val, int_one]) ?_)
    show K _ _
    have hg0 : W.grownBy ((W.alloc (.cells #[.int .i64 0, .int .i64 0, .int .i64 0] 58)).setRow W.heap.size x.val) none := below_grown (below_setRow ((Below.refl _ W).alloc (Nat.le_refl _) _) (Nat.le_refl _) _)
    have hB := hi.2
    refine hK _ _ (KeepsFrom.of_grownBy hg0 (fun j e => by cases e)) ⟨(Below.refl _ W).grown hg0 hB.size (fun k e => by cases e), ⟨hg0.size, fun k c t h _ => (hg0.block k (blk_lt h) (by simp)).trans h⟩⟩ ?_ ⟨W.heap.size, hB.size, blk_setRow hz, rfl⟩
    obtain ⟨⟨⟨v, hv, he, hp⟩, hf⟩, _⟩ := hi
    exact ⟨⟨⟨v, hv.kept hg0 (by simp), he, hp⟩, (hg0.block _ (blk_lt hf) (by simp)).trans hf⟩, hB.trans ((Below.refl _ W).grown hg0 hB.size (fun k e => by cases e))⟩
  case body =>
    rintro l pre x a' W hl hL ⟨⟨⟨v, hv, rfl, hp⟩, hf⟩, hB⟩ ⟨g, hgs, hgc, rfl⟩ hlt
    have hc0 := hv.cell
    have hfz := hv.frozen
    have c2 : W.cell? ⟨g, 2, none⟩ = some (.int .i64 x.t) := (cell_of_row W _ _ _ _ _ hgc).trans rfl
    have c1 : W.cell? ⟨w.heap.size, 1, none⟩ = some (.slice A bs.length c) := (cell_of_row W _ _ _ _ _ hf).trans rfl
    have hlen := hr.len
    have hwl : IntKind.u64.wrap (bs.length : Int) = (bs.length : Int) := wrap_u64_in _ (by omega) (by omega)
    by_cases hin : IntKind.u64.wrap x.t < (bs.length : Int)
    · have hd : decide (IntKind.u64.wrap x.t ≥ (bs.length : Int)) = false := decide_eq_false (by omega)
      have hp2 : allN (pre ++ [x]) bs.length = true := by unfold allN at hp ⊢; rw [List.all_append, hp]; simp [inN, hin]
      have hp3 := Lib.hid hp2
      clear hp hp2
      gi_wp2
      exact ⟨KeepsFrom.refl _ _, ⟨Below.refl _ _, KeepE.refl _⟩, ⟨⟨_, hv, rfl, hp3.out⟩, hf⟩, hB⟩
    · have hd : decide (IntKind.u64.wrap x.t ≥ (bs.length : Int)) = true := decide_eq_true (by omega)
      have hp2 : allN (pre ++ [x]) bs.length = false := by unfold allN at hp ⊢; rw [List.all_append, hp]; simp [inN, hin]
      have hp3 := Lib.hid hp2
      clear hp hp2
      gi_wp2
      exact ⟨(KeepsOthers.setCell _ _ _).from _, ⟨hv.set _, rfl, hp3.out⟩, hB.setCell (p := ⟨w.heap.size + 1, 0, none⟩) (by simp) _⟩
  case done =>
    rintro D ys W hD rfl ⟨⟨⟨v, hv, rfl, hp⟩, hf⟩, hB⟩ hK
    have hc := hv.cell
    have hfz := hv.frozen
    have c1 : W.cell? ⟨w.heap.size, 1, none⟩ = some (.slice A bs.length c) := (cell_of_row W _ _ _ _ _ hf).trans rfl
    have hlen := hr.len
    have hres : closedB bs = (decide (0 < bs.length) && decide (bs.length ≤ 200)) := by rw [closedB, hp, Bool.true_and]
    clear hp
    have hDs : w.heap.size ≤ D := by simp at hD; omega
    have hne : D ≠ w.heap.size + 1 := by simp at hD; omega
    by_cases l0 : 0 < bs.length
    · by_cases l2 : bs.length ≤ 200
      · have d0 : decide ((bs.length : Int) > 0) = true := decide_eq_true (by omega)
        have d2 : decide ((bs.length : Int) ≤ 200) = true := decide_eq_true (by omega)
        rw [decide_eq_true l0, decide_eq_true l2] at hres
        have hres' := Lib.hid hres
        clear hres
        gi_wp2
        have hK2 : (W.setCell ⟨w.heap.size + 1, 0, none⟩ (.bool true)).heap[D]? = some (.deferred (some [])) := (KeepsOthers.setCell _ _ _).same D _ hK rfl
        have hB2 := hv.set (.bool true)
        refine ⟨by simp, .inl ⟨_, _, rfl, run_takeDeferred hK2, ?_⟩⟩
        have hv3 : Boxed ((W.setCell ⟨w.heap.size + 1, 0, none⟩ (.bool true)).putObj D (.deferred none)) (w.heap.size + 1) 4 (.bool true) := hB2.kept (grownBy_putObj' _ _ _) (by simp; omega)
        refine ⟨_, results_cell_one rfl _ _ _ _ rfl hv3.cell (by kernel_rfl), by simp [hres'.out], ?_⟩
        exact (hB.setCell (p := ⟨w.heap.size + 1, 0, none⟩) (by simp) _).grown (grownBy_putObj' _ _ _) (by simp [World.setCell]; exact hB.size) (fun k e => by cases e; exact hDs)
      · have d0 : decide ((bs.length : Int) > 0) = true := decide_eq_true (by omega)
        have d2 : decide ((bs.length : Int) ≤ 200) = false := decide_eq_false (by omega)
        rw [decide_eq_true l0, decide_eq_false l2] at hres
        have hres' := Lib.hid hres
        clear hres
        gi_wp2
        have hK2 : (W.setCell ⟨w.heap.size + 1, 0, none⟩ (.bool false)).heap[D]? = some (.deferred (some [])) := (KeepsOthers.setCell _ _ _).same D _ hK rfl
        have hB2 := hv.set (.bool false)
        refine ⟨by simp, .inl ⟨_, _, rfl, run_takeDeferred hK2, ?_⟩⟩
        have hv3 : Boxed ((W.setCell ⟨w.heap.size + 1, 0, none⟩ (.bool false)).putObj D (.deferred none)) (w.heap.size + 1) 4 (.bool false) := hB2.kept (grownBy_putObj' _ _ _) (by simp; omega)
        refine ⟨_, results_cell_one rfl _ _ _ _ rfl hv3.cell (by kernel_rfl), by simp [hres'.out], ?_⟩
        exact (hB.setCell (p := ⟨w.heap.size + 1, 0, none⟩) (by simp) _).grown (grownBy_putObj' _ _ _) (by simp [World.setCell]; exact hB.size) (fun k e => by cases e; exact hDs)
    · have d0 : decide ((bs.length : Int) > 0) = false := decide_eq_false (by omega)
      rw [decide_eq_false l0, Bool.false_and] at hres
      have hres' := Lib.hid hres
      clear hres
      gi_wp2
      have hK2 : (W.setCell ⟨w.heap.size + 1, 0, none⟩ (.bool false)).heap[D]? = some (.deferred (some [])) := (KeepsOthers.setCell _ _ _).same D _ hK rfl
      have hB2 := hv.set (.bool false)
      refine ⟨by simp, .inl ⟨_, _, rfl, run_takeDeferred hK2, ?_⟩⟩
      have hv3 : Boxed ((W.setCell ⟨w.heap.size + 1, 0, none⟩ (.bool false)).putObj D (.deferred none)) (w.heap.size + 1) 4 (.bool false) := hB2.kept (grownBy_putObj' _ _ _) (by simp; omega)
      refine ⟨_, results_cell_one rfl _ _ _ _ rfl hv3.cell (by kernel_rfl), by simp [hres'.out], ?_⟩
      exact (hB.setCell (p := ⟨w.heap.size + 1, 0, none⟩) (by simp) _).grown (grownBy_putObj' _ _ _) (by simp [World.setCell]; exact hB.size) (fun k e => by cases e; exact hDs)
  case stop =>
    rintro D cd pre W hD hpre ⟨⟨hv, rfl, hp⟩, hB⟩ hK
    have hDs : w.heap.size ≤ D := by simp at hD; omega
    have hne : D ≠ w.heap.size + 1 := by simp at hD; omega
    have hres : closedB bs = false := by
      obtain ⟨r, hr2⟩ := hpre
      rw [closedB, ← hr2]
      have : allN (pre ++ r) bs.length = false := by unfold allN at hp ⊢; rw [List.all_append, hp]; rfl
      rw [this]; rfl
    have hres' := Lib.hid hres
    clear hres hp
    gi_wp2
    refine ⟨by simp, .inl ⟨_, _, rfl, run_takeDeferred hK, ?_⟩⟩
    have hv3 : Boxed (W.putObj D (.deferred none)) (w.heap.size + 1) 4 (.bool false) := hv.kept (grownBy_putObj' _ _ _) (by simp; omega)
    refine ⟨_, results_cell_one rfl _ _ _ _ rfl hv3.cell (by kernel_rfl), by simp [hres'.out], ?_⟩
    exact hB.grown (grownBy_putObj' _ _ _) hB.size (fun k e => by cases e; exact hDs)

end Go.Proofs.YtjichaeegheacaaGreatDoor
