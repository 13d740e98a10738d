
/-
  How great a function is: BlocksOf, FuncOf: some number.
-/
import Derived.Test.YtjichaeegheacaaKit
namespace Go.Proofs.Ytjichaeegheacaa
open Go Go.RowKit

/-- Instructions whose arguments can be counted. -/
def InsOk (w : World) (v : Value) : Prop :=
  ∃ (A : Option Addr) (n c : Nat), v = .slice A n c ∧ n ≤ 140737488355328 ∧
    ∀ k, k < n → ∃ b off, A = some ⟨b, off, none⟩ ∧ b < w.heap.size ∧ ∃ (Aa : Option Addr) (na ca : Nat), w.cell? ⟨b, off + k * 8 + 6, none⟩ = some (.slice Aa na ca) ∧ na ≤ 140737488355328
theorem InsOk.below {w w' : World} {v : Value} (h : InsOk w v) (hb : Below w.heap.size w w') : InsOk w' v := by
  obtain ⟨A, n, c, e, hn, hk⟩ := h
  refine ⟨A, n, c, e, hn, fun k hk' => ?_⟩
  obtain ⟨b, off, e1, e2, Aa, na, ca, e3, e4⟩ := hk k hk'
  exact ⟨b, off, e1, Nat.lt_of_lt_of_le e2 hb.size, Aa, na, ca, (hb.cell (p := ⟨b, off + k * 8 + 6, none⟩) e2).trans e3, e4⟩
/-- Of each block. -/
def AllIns (w : World) (bs : List Blk) : Prop := ∀ i, i < bs.length → InsOk w (gB bs i).ins
theorem AllIns.below {w w' : World} {bs : List Blk} (h : AllIns w bs) (hb : Below w.heap.size w w') : AllIns w' bs := fun i hi => (h i hi).below hb

set_option maxRecDepth 100000 in
set_option maxHeartbeats 2000000 in
theorem BlocksOf_any (A : Option Addr) (c : Nat) (bs : List Blk) (m : Int) (w : World) (hr : RF w A bs) (hi : AllIns w bs) (hm0 : 0 ≤ m) (hm : m ≤ 500) :
    Calls Try.prog 16 #[.slice A bs.length c, .int .i64 m] w fun e w' => ∃ n : Int, e = .returned (.int .i64 n) ∧ 0 ≤ n ∧ n ≤ 1000000000000000 ∧ w' = w := by
  have hl := hr.len
  go_enter Try.func16, Try.ntmps16
  go_wp2
  go_loopw [5, 6] (fun n i W => ∃ (k : Nat) (s : Int), k ≤ bs.length ∧ i = .int .i64 k ∧ n = .int .i64 s ∧ 0 ≤ s ∧ s ≤ 1000000000000000 ∧ W = w) (fun _ i _ => bs.length - (intOf i).toNat)
  case atStart => exact ⟨0, 0, Nat.zero_le _, rfl, rfl, by omega, by omega, rfl⟩
  case round =>
    obtain ⟨k, s, hk, rfl, rfl, h0, h1, rfl⟩ := hrel
    by_cases hlt : k < bs.length
    · have hd : decide ((k : Int) < (bs.length : Int)) = true := decide_eq_true (by omega)
      by_cases hs : s ≤ m
      · have hd1 : decide (s ≤ m) = true := decide_eq_true hs
        obtain ⟨b, off, hAe, hbl, hok, hcs⟩ := hr.at_ hlt
        have e0 := hcs 0 (by decide)
        rw [Nat.mul_comm, Nat.add_zero] at e0
        obtain ⟨Ai, ni, ci, hie, hni, hik⟩ := hi k hlt
        simp only [Blk.cell, hie] at e0
        clear hie hcs
        subst hAe
        go_wp2
        go_loopw [5, 7] (fun n j W => ∃ (q : Nat) (t : Int), q ≤ ni ∧ j = .int .i64 q ∧ n = .int .i64 t ∧ 0 ≤ t ∧ t ≤ 1000000000000000 ∧ W = wr) (fun _ j _ => ni - (intOf j).toNat)
        case atStart => exact ⟨0, _, Nat.zero_le _, rfl, rfl, by omega, by omega, rfl⟩
        case round =>
          obtain ⟨q, t, hq, rfl, rfl, t0, t1, rfl⟩ := hrel
          by_cases hql : q < ni
          · have hd2 : decide ((q : Int) < (ni : Int)) = true := decide_eq_true (by omega)
            by_cases ht : t ≤ m
            · have hd3 : decide (t ≤ m) = true := decide_eq_true ht
              obtain ⟨bi, oi, rfl, hbi, Aa, na, ca, hca, hna⟩ := hik q hql
              go_wp2
              go_roundw
              case rel => exact ⟨q + 1, _, by omega, by go_num, rfl, by omega, by omega, by trivial⟩
              case measure => simp [intOf]; omega
            · have hd3 : decide (t ≤ m) = false := decide_eq_false ht
              go_wp2
              go_roundw
              case rel => exact ⟨k + 1, _, by omega, by go_num, rfl, by omega, by omega, by trivial⟩
              case measure => simp [intOf]; omega
          · obtain rfl : q = ni := by omega
            have hd2 : decide ((q : Int) < (q : Int)) = false := by simp
            go_wp2
            go_roundw
            case rel => exact ⟨k + 1, _, by omega, by go_num, rfl, by omega, by omega, by trivial⟩
            case measure => simp [intOf]; omega
      · have hd1 : decide (s ≤ m) = false := decide_eq_false hs
        go_wp2
        go_ret
        exact ⟨s, rfl, h0, h1, rfl⟩
    · obtain rfl : k = bs.length := by omega
      have hd : decide ((bs.length : Int) < (bs.length : Int)) = false := by simp
      go_wp2
      go_ret
      exact ⟨s, rfl, h0, h1, rfl⟩

/-- A function that came in: what its parameters' slice holds is not asked. -/
structure Fn (w : World) (P : Value) (A : Option Addr) (bs : List Blk) : Prop where
  rf : RF w A bs
  ins : AllIns w bs
  par : ∃ (Ap : Option Addr) (np cp : Nat), P = .slice Ap np cp ∧ np ≤ 140737488355328
theorem Fn.below {w w' : World} {P : Value} {A : Option Addr} {bs : List Blk} (h : Fn w P A bs) (hb : Below w.heap.size w w') : Fn w' P A bs := ⟨h.rf.below hb, h.ins.below hb, h.par⟩

set_option maxRecDepth 100000 in
set_option maxHeartbeats 1000000 in
theorem FuncOf_any (P : Value) (A : Option Addr) (c : Nat) (bs : List Blk) (m : Int) (w : World) (hf : Fn w P A bs) (hm0 : 0 ≤ m) (hm : m ≤ 500) :
    Calls Try.prog 5 #[.agg #[P, .slice A bs.length c], .int .i64 m] w fun e w' => ∃ n : Int, e = .returned (.int .i64 n) ∧ 0 ≤ n ∧ n ≤ 2000000000000000 ∧ Below w.heap.size w w' := by
  obtain ⟨Ap, np, cp, rfl, hnp⟩ := hf.par
  have hb0 := (Below.refl w.heap.size w).alloc (Nat.le_refl _) (.cells #[.slice Ap np cp, .slice A bs.length c] 25)
  have hs := blk_new w (.cells #[.slice Ap np cp, .slice A bs.length c] 25)
  have c0 : ∀ W, Below (w.alloc (.cells #[.slice Ap np cp, .slice A bs.length c] 25)).heap.size (w.alloc (.cells #[.slice Ap np cp, .slice A bs.length c] 25)) W → W.cell? ⟨w.heap.size, 0, none⟩ = some (.slice Ap np cp) := fun W hW => (cell_of_row _ _ 0 _ _ _ (blk_below hW hs (blk_lt hs))).trans rfl
  have c1 : ∀ W, Below (w.alloc (.cells #[.slice Ap np cp, .slice A bs.length c] 25)).heap.size (w.alloc (.cells #[.slice Ap np cp, .slice A bs.length c] 25)) W → W.cell? ⟨w.heap.size, 1, none⟩ = some (.slice A bs.length c) := fun W hW => (cell_of_row _ _ 1 _ _ _ (blk_below hW hs (blk_lt hs))).trans rfl
  have hl := hf.rf.len
  go_enter Try.func5, Try.ntmps5
  go_wp2
  generalize hw1 : (w.alloc (.cells #[.slice Ap np cp, .slice A bs.length c] 25)) = w1 at *
  refine wp_region_tree (S := fun W => ∃ p : Regrown, W = Sort.grow (redrawn w1 p.d) p.os) (.look [0, 1, 2, 3, 4, 5] (.one 6 (.look [7, 8] .done))) (by kernel_rfl) (by kernel_rfl) (regrown_of_below ((Below.refl w1.heap.size w1).drew)) (fun d _ _ _ _ h => by cases d <;> exact h) ?_
  refine tree_look ?_
  dsimp only [pickL, nthO]
  repeat (first
    | go_big_quiet_skip
    | (go_big_quiet_want; first
        | (go_big_quiet_op; go_big_quiet_on)
        | ((first
            | refine q_go ⟨_, ⟨0, #[]⟩, rfl⟩ (fun K' hk => q_loadS _ _ rfl ⟨w.heap.size, 0, none⟩ rfl _ Try.underlying22 _ (fun W hW => c0 W (below_of_grow hW)) hk) ?_
            | refine q_go ⟨_, ⟨0, #[]⟩, rfl⟩ (fun K' hk => q_loadS _ _ rfl ⟨w.heap.size, 1, none⟩ rfl _ Try.underlying23 _ (fun W hW => c1 W (below_of_grow hW)) hk) ?_); go_big_quiet_op; go_big_quiet_on)))
  refine wpQuiet_nil ?_
  refine tree_one rfl ?_
  go_wp2_with fail
  have hdr : Below w1.heap.size w1 w1.drew := (Below.refl _ _).drew
  refine (BlocksOf_any A c bs m _ (hf.rf.below (hb0.trans (hdr.mono hb0.size))) (hf.ins.below (hb0.trans (hdr.mono hb0.size))) hm0 hm).mono ?_
  rintro e W2 ⟨n, rfl, n0, n1, rfl⟩
  go_wp2
  refine ⟨regrown_of_below hdr, ?_⟩
  refine tree_look ?_
  dsimp only [pickL, nthO]
  repeat (first
    | go_big_quiet_skip
    | (go_big_quiet_want; go_big_quiet_op; go_big_quiet_on))
  refine wpQuiet_nil ?_
  refine tree_done ?_
  go_wp2
  go_ret
  exact ⟨_, rfl, by omega, by omega, hb0.trans (hdr.mono hb0.size)⟩

end Go.Proofs.Ytjichaeegheacaa
