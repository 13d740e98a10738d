
/-
  Package flow: Edges, From, Into.
-/
import Derived.Test.YtjichaeegheacaaSome
import Derived.Test.YtjichaeegheacaaQuiet
namespace Go.Proofs.Ytjichaeegheacaa
open Go Go.RowKit

theorem edgesLit_any (x : Ed) (W : World) :
    Calls Try.prog 36 #[.agg (Ed.val x)] W (fun e W' => e = .returned (.bool true) ∧ Below W.heap.size W W') := by
  unfold Ed.val
  go_enter Try.func36, Try.ntmps36
  go_wp2
  go_ret
  exact ⟨rfl, (Below.refl _ _).alloc (Nat.le_refl _) _⟩

theorem fromLit_any (x : Ed) (b : Nat) (n : Int) (W : World) (hb : b < W.heap.size) (hc : W.heap[b]? = some (.cells #[.int .i64 n] 3 (0, 0))) :
    Calls Try.prog 19 #[.agg (Ed.val x), .pointer (some ⟨b, 0, none⟩)] W (fun e W' => e = .returned (.bool (decide (x.f = n))) ∧ Below W.heap.size W W') := by
  unfold Ed.val
  have c0 := cell_of_one ((blk_old W (.cells #[.int .i64 x.f, .int .i64 x.a, .int .i64 x.t] 32) hb).trans hc)
  go_enter Try.func19, Try.ntmps19
  go_wp2
  go_ret
  refine ⟨?_, (Below.refl _ _).alloc (Nat.le_refl _) _⟩
  congr 2

theorem FreshEds.mono {w0 w : World} {xs : List Ed} (h0 : Below w0.heap.size w0 w) {e : Ending} {w' : World} (h : FreshEds w xs e w') : FreshEds w0 xs e w' := by
  obtain ⟨v, he, ho, hn, hb⟩ := h
  refine ⟨v, he, ⟨ho.1, ?_⟩, hn, h0.trans (hb.mono h0.size)⟩
  rcases ho.2 with h | ⟨g, cap, cur, e1, e2, e3⟩
  · exact .inl h
  · exact .inr ⟨g, cap, cur, e1, Nat.le_trans h0.size e2, e3⟩

set_option maxRecDepth 100000 in
set_option maxHeartbeats 1000000 in
theorem Edges_any (P : Value) (A : Option Addr) (c : Nat) (bs : List Blk) (w : World) (hr : RF w A bs) :
    Calls Try.prog 28 #[.agg #[P, .slice A bs.length c]] w (FreshEds w (someE bs fun _ => true)) := by
  have hb0 := (Below.refl w.heap.size w).alloc (Nat.le_refl _) (.cells #[P, .slice A bs.length c] 25)
  have hs := blk_new w (.cells #[P, .slice A bs.length c] 25)
  have q := some_any P A c bs 36 #[] (fun _ => true) _ (hr.below hb0) (run_callFunc_own (by kernel_rfl)) (fun x W _ _ _ => edgesLit_any x W)
  go_enter Try.func28, Try.ntmps28
  go_wp2_with (refine wpList_load_row rfl _ _ rfl _ rfl _ _ _ _ hs Try.underlying25 rfl (by kernel_rfl) ?_)
  refine q.mono ?_
  intro e W1 hf
  obtain ⟨v, rfl, h2⟩ := FreshEds.mono hb0 hf
  go_wp2
  go_ret
  exact ⟨v, rfl, h2⟩

set_option maxRecDepth 100000 in
set_option maxHeartbeats 1000000 in
theorem From_any (P : Value) (A : Option Addr) (c : Nat) (bs : List Blk) (n : Int) (w : World) (hr : RF w A bs) :
    Calls Try.prog 7 #[.agg #[P, .slice A bs.length c], .int .i64 n] w (FreshEds w (someE bs fun x => decide (x.f = n))) := by
  have hb0 := ((Below.refl w.heap.size w).alloc (Nat.le_refl _) (.cells #[P, .slice A bs.length c] 25)).alloc (by simp) (.cells #[.int .i64 n] 3)
  have hs := (blk_old (w.alloc (.cells #[P, .slice A bs.length c] 25)) (.cells #[.int .i64 n] 3) (by simp)).trans (blk_new w (.cells #[P, .slice A bs.length c] 25))
  have hn := blk_new (w.alloc (.cells #[P, .slice A bs.length c] 25)) (.cells #[.int .i64 n] 3)
  rw [World.size_alloc] at hn
  have q := some_any P A c bs 19 #[.pointer (some ⟨w.heap.size + 1, 0, none⟩)] (fun x => decide (x.f = n)) _ (hr.below hb0) (run_callFunc_own (by kernel_rfl)) (fun x W _ _ hW => fromLit_any x (w.heap.size + 1) n W (Nat.lt_of_lt_of_le (blk_lt hn) hW.size) (blk_below hW hn (blk_lt hn)))
  have hmf : ∀ (fn : Fn) (first cap : Array Value) (w : World), (Instr.makeFunc fn first cap).run Try.prog w = .ok (.func fn first cap) w := fun _ _ _ _ => rfl
  go_enter Try.func7, Try.ntmps7
  go_wp2_with (refine wpList_load_row rfl _ _ rfl _ rfl _ _ _ _ hs Try.underlying25 rfl (by kernel_rfl) ?_)
  refine q.mono ?_
  intro e W1 hf
  obtain ⟨v, rfl, h2⟩ := FreshEds.mono hb0 hf
  go_wp2
  go_ret
  exact ⟨v, rfl, h2⟩

end Go.Proofs.Ytjichaeegheacaa
