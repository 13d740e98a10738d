/-
  OnesCount64, Many, First.
-/
import Derived.Test.YtjichaeegheacaaDoorIter
import Derived.Test.YtjichaeegheacaaDoorPop
namespace Go.Proofs.YtjichaeegheacaaDoor
open Go Go.RowKit Go.Shelf
attribute [local go_sem] Oper.semAt_some

/-- How many bits a word has. -/
def popW (x : Nat) : Nat := sF 2 64 x
theorem popW_eq (x : Nat) : ((popW x : Nat) : Int) = ((sF 2 64 x : Nat) : Int) := rfl
attribute [irreducible] popW

set_option maxHeartbeats 1000000 in
theorem ones_any (x : Nat) (hx : x < 18446744073709551616) (w : World) :
    Calls Tryd.prog 36 #[.int .u64 x] w fun e w' => e = .returned (.int .i64 ((popW x : Nat) : Int)) ∧ w = w' := by
  have sA := stepA hx
  have sB := stepB x
  have sC := stepC x
  have sD := stepD x
  have sE := stepE x
  have sF' := stepF x
  have sG := stepG x
  rw [← popW_eq] at sG
  have b1 : ((vF x : Nat) : Int) ≤ 9223372036854775807 := by have := (pop_all x).2.2.2.1; omega
  go_enter Tryd.func36, Tryd.ntmps36
  go_wp2
  go_ret
  exact ⟨rfl, rfl⟩

def cntN (N k : Nat) : Nat := (upTo N (64 * k)).length
theorem cntN_zero (N : Nat) : cntN N 0 = 0 := by unfold cntN; rw [Nat.mul_zero, upTo_zero]; rfl
theorem cntN_succ (N k : Nat) : cntN N (k + 1) = cntN N k + popW (wd N k) := by
  have h := upTo_word N k 64 (Nat.le_refl _)
  have e := popW_eq (wd N k)
  unfold cntN
  rw [show 64 * (k + 1) = 64 * k + 64 from rfl, h]
  omega

set_option maxHeartbeats 1000000 in
theorem Many_any (N : Nat) (w : World) :
    Calls Tryd.prog 19 #[.agg (setA N)] w (Fresh w (.int .i64 (((upTo N 1024).length : Nat) : Int))) := by
  have hs := blk_new w (.cells (setA N) 27)
  go_enter Tryd.func19, Tryd.ntmps19
  go_wp2_with (refine wpList_load_row rfl _ _ rfl _ rfl _ _ _ _ hs Tryd.underlying27 rfl (szSetA _) ?_)
  go_loop [2, 6] (fun n i => ∃ k : Nat, k ≤ 16 ∧ i = .int .i64 k ∧ n = .int .i64 (cntN N k)) (fun _ i => 16 - (intOf i).toNat)
  case atStart => exact ⟨0, Nat.zero_le _, rfl, by rw [cntN_zero]; rfl⟩
  case round =>
    obtain ⟨k, hk, rfl, rfl⟩ := hrel
    by_cases hlt : k < 16
    · have hix := index_set N k hlt
      have hb1 : cntN N k ≤ 1024 := Nat.le_trans (upTo_len _ _) (by omega)
      have hb2 : cntN N (k + 1) ≤ 1024 := Nat.le_trans (upTo_len _ _) (by omega)
      have HS := Lib.hid (cntN_succ N k)
      have hb3 : ((popW (wd N k) : Nat) : Int) ≤ 1024 := by have := HS.out; omega
      go_wp2_with (go_at_call 36; refine (ones_any _ (wd_lt N k) _).mono ?_; rintro e w' ⟨rfl, rfl⟩)
      go_round
      case rel => exact ⟨k + 1, by omega, by go_num, by rw [HS.out]; go_num⟩
      case measure => simp [intOf]; omega
    · obtain rfl : k = 16 := by omega
      go_wp2
      go_ret
      exact ⟨rfl, (Below.refl _ _).alloc (Nat.le_refl _) _⟩

/-- The least number; -1: there is none. -/
def firstN (N : Nat) : Int := (upTo N 1024).head?.getD (-1)

set_option maxRecDepth 100000 in
set_option maxHeartbeats 2000000 in
theorem First_any (N : Nat) (w : World) (hT : Tab w) :
    Calls Tryd.prog 20 #[.agg (setA N)] w (Fresh w (.int .i64 (firstN N))) := by
  refine (callsIn_wide (n := 5)).1 ?_
  have hgT := hT.2
  refine callsIn_of_wp_marks Tryd.func20 rfl trivial ?_ rfl
  simp only [Tryd.ntmps20, List.size_toArray, List.length_cons, List.length_nil, Nat.reduceAdd, Nat.reduceSub, Array.replicate_succ, Array.replicate_zero, List.push_toArray, List.append_toArray, List.nil_append, List.cons_append]
  have hs : ((w.alloc (.cells (setA N) 27)).alloc (.cells #[.int .i64 0] 3)).heap[w.heap.size]? = some (.cells (setA N) 27 (0, 0)) := (blk_old _ _ (by simp)).trans (blk_new w _)
  gi_wp2_with (first | (refine wpListIn_load_row rfl _ _ rfl _ rfl _ _ _ _ hs Tryd.underlying27 rfl (szSetA _) ?_) | (refine ⟨trivial, ?_⟩; gi_at_call 35; refine (each_in _ _ _).mono ?_; rintro e w' ⟨rfl, rfl⟩))
  have hB0 : Below w.heap.size w (((w.alloc (.cells (setA N) 27)).alloc (.cells #[.int .i64 0] 3)).alloc (.cells (setA N) 27)) := (((Below.refl _ w).alloc (Nat.le_refl _) _).alloc (by simp) _).alloc (by simp; omega) _
  have h3 := blk_new ((w.alloc (.cells (setA N) 27)).alloc (.cells #[.int .i64 0] 3)) (.cells (setA N) 27)
  rw [World.size_alloc, World.size_alloc] at h3
  have bO : Boxed (((w.alloc (.cells (setA N) 27)).alloc (.cells #[.int .i64 0] 3)).alloc (.cells (setA N) 27)) (w.heap.size + 1) 3 (.int .i64 0) := by
    have := Boxed.new (w.alloc (.cells (setA N) 27)) 3 (.int .i64 0)
    rw [World.size_alloc] at this
    exact this.alloc _
  refine wpIn_rangeFunc_ownG rfl (by omega) (gf := 55) (lb := #[.pointer (some ⟨w.heap.size + 1 + 1, 0, none⟩)]) rfl trivial (enters_of Tryd.func55 (by kernel_rfl) rfl)
    (each_stops (5 - 1) (by omega) (w.heap.size + 1 + 1) w.heap.size N _ (by simp) h3 (hT.below hB0) hgT) belowK_t (belowK_b (by simp; omega)) (Below.refl _ _) (fun _ => rfl)
    (fun pre W => (∃ v, Boxed W (w.heap.size + 1) 3 v ∧ v = .int .i64 0 ∧ pre = []) ∧ Below w.heap.size w W)
    (fun c pre W => (∃ x, Boxed W (w.heap.size + 1) 3 (.int .i64 x) ∧ pre = [x] ∧ c = .ret) ∧ Below w.heap.size w W)
    (OwnFrom.and (Own.from (fun s A B row hs hg hr => by
      obtain ⟨v, hv, he, hp⟩ := hs
      exact ⟨v, hv.kept hg (fun e' => by obtain ⟨o, ho, hc⟩ := hr _ e'.symm; rw [show A.heap[w.heap.size + 1]? = _ from hv] at ho; cases ho; cases hc), he, hp⟩) _) (ownFrom_below (Nat.le_refl _) (by simp; omega)))
    (fun c => OwnFrom.and (Own.from (fun s A B row hs hg hr => by
      obtain ⟨x, hv, hp⟩ := hs
      exact ⟨x, hv.kept hg (fun e' => by obtain ⟨o, ho, hc⟩ := hr _ e'.symm; rw [show A.heap[w.heap.size + 1]? = _ from hv] at ho; cases ho; cases hc), hp⟩) _) (ownFrom_below (Nat.le_refl _) (by simp; omega)))
    ⟨⟨_, bO, rfl, rfl⟩, hB0⟩
    (fun x => { tmps := #[.agg (setA N), .pointer (some ⟨w.heap.size, 0, none⟩), .pointer (some ⟨w.heap.size + 1, 0, none⟩), .int .i64 x, .agg (setA N), .func (.func 55) #[] #[.pointer (some ⟨w.heap.size + 1 + 1, 0, none⟩)], .int .i64 x, undef], defers := [] }) ?assign ?body ?done ?stop
  case assign =>
    intro l x W K hK
    gi_wp2
    exact hK
  case body =>
    rintro l pre x W ⟨⟨v, hv, rfl, rfl⟩, hB⟩ hlt
    have hc := hv.cell
    have hf := hv.frozen
    gi_wp2
    exact ⟨(KeepsOthers.setCell _ _ _).from _, ⟨x, hv.set _, rfl, rfl⟩, hB.setCell (p := ⟨w.heap.size + 1, 0, none⟩) (by simp) _⟩
  case done =>
    rintro D ys W hD rfl ⟨⟨v, hv, rfl, hp⟩, hB⟩ hK
    have hc := hv.cell
    have hf := hv.frozen
    gi_wp2
    have hK2 : (W.setCell ⟨w.heap.size + 1, 0, none⟩ (.int .i64 (-1))).heap[D]? = some (.deferred (some [])) := (KeepsOthers.setCell _ _ _).same D _ hK rfl
    have hB2 := hv.set (.int .i64 (-1))
    have hDs : w.heap.size ≤ D := by simp at hD; omega
    have hne : D ≠ w.heap.size + 1 := by simp at hD; omega
    refine ⟨by simp, .inl ⟨_, _, rfl, run_takeDeferred hK2, ?_⟩⟩
    have hv3 : Boxed ((W.setCell ⟨w.heap.size + 1, 0, none⟩ (.int .i64 (-1))).putObj D (.deferred none)) (w.heap.size + 1) 3 (.int .i64 (-1)) := hB2.kept (grownBy_putObj' _ _ _) (by simp; omega)
    refine ⟨_, results_cell_one rfl _ _ _ _ rfl hv3.cell (by kernel_rfl), by rw [firstN, hp]; rfl, ?_⟩
    exact (hB.setCell (p := ⟨w.heap.size + 1, 0, none⟩) (by simp) _).grown (grownBy_putObj' _ _ _) (by simp [World.setCell]; exact hB.size) (fun k e => by cases e; exact hDs)
  case stop =>
    rintro D c pre W hD hpre ⟨⟨x, hv, rfl, rfl⟩, hB⟩ hK
    have hDs : w.heap.size ≤ D := by simp at hD; omega
    have hne : D ≠ w.heap.size + 1 := by simp at hD; omega
    gi_wp2
    refine ⟨by simp, .inl ⟨_, _, rfl, run_takeDeferred hK, ?_⟩⟩
    have hv3 : Boxed (W.putObj D (.deferred none)) (w.heap.size + 1) 3 (.int .i64 x) := hv.kept (grownBy_putObj' _ _ _) (by simp; omega)
    obtain ⟨r, hr⟩ := hpre
    refine ⟨_, results_cell_one rfl _ _ _ _ rfl hv3.cell (by kernel_rfl), by rw [firstN, ← hr]; rfl, ?_⟩
    exact hB.grown (grownBy_putObj' _ _ _) hB.size (fun k e => by cases e; exact hDs)

end Go.Proofs.YtjichaeegheacaaDoor
