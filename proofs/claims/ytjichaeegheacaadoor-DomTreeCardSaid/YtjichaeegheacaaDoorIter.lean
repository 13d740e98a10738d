/-
  The iterator over a set's numbers, and what collects them: TrailingZeros64, each, List.
-/
import Derived.Test.YtjichaeegheacaaDoorBitsB
import Derived.Test.YtjichaeegheacaaDoorWords
import Derived.RangeFuncBox
import Derived.RangeFuncNested
import Derived.RangeFuncLeaves
import Derived.Shelf.Abstract
import Derived.OwnWalkIn
import Derived.TacticsInMore
import Derived.LoopNIn
import Derived.LoopIn
import Derived.Maps.AppendAt
import Derived.Shelf.Spec.TrailingZeros
namespace Go.Proofs.YtjichaeegheacaaDoor
open Go Go.RowKit Go.Shelf
attribute [local go_sem] Oper.semAt_some

/-- The table of math/bits lies in its variable. -/
def Tab (w : World) : Prop := TabAt 0 Lib.deBruijn64tab w ∧ 0 < w.heap.size
theorem Tab.below {w w' : World} (h : Tab w) (hb : Below w.heap.size w w') : Tab w' :=
  ⟨fun j hj => (hb.cell (p := ⟨0, j, none⟩) h.2).trans (h.1 j hj), Nat.lt_of_lt_of_le h.2 hb.size⟩

set_option maxHeartbeats 1000000 in
theorem tz_core (x k idx : Nat) (w : World) (hx0 : ((x : Int) == 0) = false)
    (key : IntKind.u64.wrap (bits BinOp.and IntKind.u64 (x : Int) (IntKind.u64.wrap (-(x : Int))) * 285870213051353865) / 288230376151711744 = (idx : Int))
    (hi : idx < 64) (hk : k < 64) (hcell : w.cell? ⟨0, idx, none⟩ = some (.int .u8 k)) :
    Calls Tryd.prog 56 #[.int .u64 x] w fun e w' => e = .returned (.int .i64 k) ∧ w = w' := by
  go_enter Tryd.func56, Tryd.ntmps56
  go_wp2_with (simp only [key])
  go_ret
  exact ⟨rfl, rfl⟩

/-- math/bits.TrailingZeros64 of a word that is not 0. -/
theorem tz_any (x : Nat) (hx : x < 18446744073709551616) (hx0 : x ≠ 0) (w : World) (hT : Tab w) :
    Calls Tryd.prog 56 #[.int .u64 x] w fun e w' => e = .returned (.int .i64 (Lib.ctz 64 x)) ∧ w = w' := by
  obtain ⟨hlow, hk⟩ := Lib.lowest_bit 64 x hx0 hx
  obtain ⟨hi, htab⟩ := Lib.deBruijn64_at _ hk
  have hcell := hT.1 _ hi
  rw [htab] at hcell
  exact tz_core x _ _ w (by simp; omega) (tz64_key x _ hx hx0 hlow) hi hk hcell

theorem index_set (N k : Nat) (hk : k < 16) (w : World) : (Instr.index 27 (.agg (setA N)) (.int .i64 (k : Int))).run Tryd.prog w = .ok (.int .u64 ((wd N k : Nat) : Int)) w := by
  have hg := setA_get N k hk
  have h1 : (0 : Int) ≤ k ∧ (k : Int) < 16 := ⟨by omega, by omega⟩
  simp [Instr.index, Sem.run_bind, asIntOf, run_underlying Tryd.underlying27, h1, part, hg]
  intro h
  omega

/-- The load of a whole block, within a fence. -/
theorem wpListIn_load_row {F : Fence} {n : Nat} {P : Program} {ops : Array Oper} {rest : List Oper} {o : Oper} {a : Act} {w : World} {Q : Exit → Act → World → Prop} (hgd : o.guard = none) (ty : TypeId) (x : Operand) (ho : o.op = .load ty x)
    (g : Nat) (hx : a.eval x = .pointer (some ⟨g, 0, none⟩)) (t : TypeId) (cs : Array Value) (fr : Nat × Nat) (d : TypeDesc) (hg : w.heap[g]? = some (.cells cs t fr))
    (hu : P.underlying ty = some d) (hd : (match d with | .struct _ | .array _ _ => true | _ => false) = true) (hi : (P.info? ty).map (·.size) = some cs.size)
    (h : wpListIn F n P ops Q rest (a.put o.dst (.agg cs)) w) : wpListIn F n P ops Q (o :: rest) a w := by
  refine wpListIn_plain hgd fun K hK => ?_
  unfold Oper.wpIn
  refine ⟨by simp [Oper.about, ho], ?_⟩
  rw [Oper.semAt_plain F _ _ (by rw [ho]; intro c hc; cases hc)]
  have hrun : (execOp a.eval o).run P w = .ok (.value (.agg cs)) w := by
    unfold execOp
    simp only [ho, hx, Instr.loadAt, Instr.sureAddr, Sem.run_bind, Sem.run_pure, Result.andThen_ok, run_loadVar_row w g t ty cs fr d hg hu hd hi]
  rw [hrun]
  exact hK _ _ h

set_option maxRecDepth 100000 in
set_option maxHeartbeats 1000000 in
/-- The iterator over a set's numbers: for every loop body that keeps what lay below n₀. -/
theorem each1_in (n : Nat) (hn : 1 ≤ n) (l Bn n₀ N : Nat) (J Jx : List Int → World → Prop)
    (hY : ∀ pre x W, J pre W → pre.length < 1024 → YieldAt Fence.wide (n - 1) Tryd.prog l #[.int .i64 x] W fun e W' =>
      (e = .returned (.bool true) ∧ J (pre ++ [x]) W' ∧ Below n₀ W W') ∨ (e = .returned (.bool false) ∧ Jx (pre ++ [x]) W'))
    (W : World) (hs : W.heap[Bn]? = some (.cells (setA N) 27 (0, 0))) (hT : Tab W) (hg : 0 < n₀) (h0 : J [] W) :
    CallsIn Fence.wide n Tryd.prog 55 #[.func (.yield l) #[] #[], .pointer (some ⟨Bn, 0, none⟩)] W fun e W' => (∃ v, e = .returned v) ∧
      ((∃ ys, ys = upTo N 1024 ∧ J ys W') ∨ (∃ pre, pre <+: upTo N 1024 ∧ Jx pre W')) := by
  refine callsIn_of_wp Tryd.func55 rfl trivial ?_ rfl
  simp only [Tryd.ntmps55, List.size_toArray, List.length_cons, List.length_nil, Nat.reduceAdd, Nat.reduceSub, Array.replicate_succ, Array.replicate_zero, List.push_toArray, List.append_toArray, List.nil_append, List.cons_append]
  gi_wp2_with (refine wpListIn_load_row rfl _ _ rfl _ rfl _ _ _ _ hs Tryd.underlying27 rfl (szSetA _) ?_)
  gi_loopw [6] (fun i wr => ∃ k : Nat, k ≤ 16 ∧ i = .int .i64 k ∧ J (upTo N (64 * k)) wr ∧ Tab wr) (fun i _ => 16 - (intOf i).toNat)
  case atStart => exact ⟨0, Nat.zero_le _, rfl, h0, hT⟩
  case round =>
    obtain ⟨k, hk, rfl, hJ, hTr⟩ := hrel
    by_cases hlt : k < 16
    · have hix := index_set N k hlt
      have hd : decide ((k : Int) < 16) = true := decide_eq_true (by omega)
      gi_wp2
      obtain ⟨wo, rfl⟩ : ∃ wo : World, wo = wr := ⟨_, rfl⟩
      gi_loopw [4] (fun x wr => ∃ p v : Nat, p ≤ 64 ∧ Left N k p v ∧ x = .int .u64 v ∧ J (upTo N (64 * k + p)) wr ∧ Tab wr) (fun x _ => (intOf x).toNat)
      case atStart => exact ⟨0, _, Nat.zero_le _, Left.start N k, rfl, hJ, hTr⟩
      case round =>
        obtain ⟨p, v, hp, hL, rfl, hJ2, hT2⟩ := hrel
        by_cases hv : v = 0
        · subst hv
          have HZ := Lib.hid (hL.zero hp)
          gi_wp2
          go_roundw
          case rel => exact ⟨k + 1, by omega, by go_num, by rw [HZ.out]; exact hJ2, hT2⟩
          case measure => simp [intOf]; omega
        · obtain ⟨q, hq, hpq, hq64, hup, hL2, hless⟩ := hL.next hv
          have hc := callsIn_wide (n := n - 1).2 (tz_any v hL.1 hv wr hT2)
          rw [hq] at hc
          have hv0 : ((v : Int) != 0) = true := by simp; omega
          have hsub := prW_u64 hv hL.1
          have hand := and_u64 hL.1 (prW_lt hL.1)
          have HU := Lib.hid hup
          clear hup
          obtain ⟨fn, tmps, assign, body, hy, hR⟩ := hY (upTo N (64 * k + p)) ((k : Int) * 64 + (q : Int)) wr hJ2 (by
            have h1 := congrArg List.length HU.out
            have h2 := upTo_len N (64 * k + (q + 1))
            rw [List.length_append] at h1
            simp at h1; omega)
          gi_wp2_with (refine ⟨trivial, ?_⟩; gi_at_call 56; refine hc.mono ?_; clear hc; rintro e w' ⟨rfl, rfl⟩)
          refine hR.mono ?_
          rintro e W3 (⟨rfl, hJ3, hk3⟩ | ⟨rfl, hJx3⟩)
          · gi_wp2
            go_roundw
            case rel => exact ⟨q + 1, _, by omega, hL2, rfl, by rw [HU.out]; exact hJ3, ⟨fun j hj => (hk3.cell (p := ⟨0, j, none⟩) hg).trans (hT2.1 j hj), Nat.lt_of_lt_of_le hT2.2 hk3.size⟩⟩
            case measure => simp [intOf]; omega
          · gi_wp2
            refine bodyPost_ret (results_none rfl _ _ _) rfl ?_
            obtain ⟨r, hr⟩ := upTo_le N (show 64 * k + (q + 1) ≤ 1024 by omega)
            exact ⟨⟨_, rfl⟩, .inr ⟨_, ⟨r, by rw [hr, HU.out]⟩, hJx3⟩⟩
    · obtain rfl : k = 16 := by omega
      gi_wp2
      go_end0
      exact ⟨⟨_, rfl⟩, .inl ⟨_, rfl, hJ⟩⟩

set_option maxRecDepth 100000 in
set_option maxHeartbeats 1000000 in
theorem each_in (n : Nat) (N : Nat) (w : World) :
    CallsIn Fence.wide n Tryd.prog 35 #[.agg (setA N)] w fun e w' => e = .returned (.func (.func 55) #[] #[.pointer (some ⟨w.heap.size, 0, none⟩)]) ∧ w.alloc (.cells (setA N) 27) = w' := by
  have hmf : ∀ (fn : Fn) (first cap : Array Value) (w : World), (Instr.makeFunc fn first cap).run Tryd.prog w = .ok (.func fn first cap) w := fun _ _ _ _ => rfl
  refine callsIn_of_wp Tryd.func35 rfl trivial ?_ rfl
  simp only [Tryd.ntmps35, List.size_toArray, List.length_cons, List.length_nil, Nat.reduceAdd, Nat.reduceSub, Array.replicate_succ, Array.replicate_zero, List.push_toArray, List.append_toArray, List.nil_append, List.cons_append]
  gi_wp2
  go_ret
  exact ⟨rfl, rfl⟩

theorem each_stops (n : Nat) (hn : 1 ≤ n) (Bn n₀ N : Nat) (w : World) (hBn : Bn < w.heap.size) (hc : w.heap[Bn]? = some (.cells (setA N) 27 (0, 0))) (hT : Tab w) (hg : 0 < n₀) :
    SeqStopsK Fence.wide n Tryd.prog 55 #[.pointer (some ⟨Bn, 0, none⟩)] (fun x : Int => #[Value.int .i64 x]) (Below n₀) (fun ys => ys = upTo N 1024) (fun pre => pre <+: upTo N 1024) 1024 w := fun l J Jx W hW _ _ hY h0 =>
  each1_in n hn l Bn n₀ N J Jx hY W (blk_below hW hc hBn) (hT.below hW) hg h0

theorem infoInt : (Tryd.prog.info? 3).map (fun i => (i.zero, i.size, i.bytes)) = some (some (.int .i64 0), 1, 8) := by kernel_rfl

/-- A result that lies in a variable of one cell. -/
theorem results_cell_one {P : Program} {fn : Func} {p : Tmp} {ty : TypeId} (h : fn.results = #[.cell p ty]) (tmps : Array Value) (w : World) (a : Addr) (v : Value)
    (hp : tmps.getD p undef = .pointer (some a)) (hc : w.cell? a = some v) (hagg : (isAgg ty).run P w = .ok false w) :
    (results fn tmps).run P w = .ok v w := by
  have hp' : tmps[p]?.getD undef = .pointer (some a) := by simpa using hp
  simp [results, h, hp', asAddr, loadVar, Sem.run_bind, hagg, hc]

/-- A fresh slice of ints. -/
def FreshInts (w : World) (xs : List Int) (e : Ending) (w' : World) : Prop :=
  ∃ v, e = .returned v ∧ w'.ownsRow w.heap.size 3 1 v xs.length (xs.map (Value.int .i64)) ∧ (v = .slice none 0 0 ↔ xs = []) ∧ Below w.heap.size w w'

set_option maxRecDepth 100000 in
set_option maxHeartbeats 2000000 in
theorem List_any (N : Nat) (w : World) (hT : Tab w) :
    Calls Tryd.prog 18 #[.agg (setA N)] w (FreshInts w (upTo N 1024)) := by
  refine (callsIn_wide (n := 5)).1 ?_
  obtain ⟨i0, hi, hz0, hz1, hz2⟩ := info_parts infoInt
  have hgT := hT.2
  refine callsIn_of_wp_marks Tryd.func18 rfl trivial ?_ rfl
  simp only [Tryd.ntmps18, List.size_toArray, List.length_cons, List.length_nil, Nat.reduceAdd, Nat.reduceSub, Array.replicate_succ, Array.replicate_zero, List.push_toArray, List.append_toArray, List.nil_append, List.cons_append]
  have hs : ((w.alloc (.cells (setA N) 27)).alloc (.cells #[.slice none 0 0] 22)).heap[w.heap.size]? = some (.cells (setA N) 27 (0, 0)) := (blk_old _ _ (by simp)).trans (blk_new w _)
  gi_wp2_with (first | (refine wpListIn_load_row rfl _ _ rfl _ rfl _ _ _ _ hs Tryd.underlying27 rfl (szSetA _) ?_) | (refine ⟨trivial, ?_⟩; gi_at_call 35; refine (each_in _ _ _).mono ?_; rintro e w' ⟨rfl, rfl⟩))
  have hB0 : Below w.heap.size w (((w.alloc (.cells (setA N) 27)).alloc (.cells #[.slice none 0 0] 22)).alloc (.cells (setA N) 27)) := (((Below.refl _ w).alloc (Nat.le_refl _) _).alloc (by simp) _).alloc (by simp; omega) _
  have h3 := blk_new ((w.alloc (.cells (setA N) 27)).alloc (.cells #[.slice none 0 0] 22)) (.cells (setA N) 27)
  rw [World.size_alloc, World.size_alloc] at h3
  have bO : Boxed (((w.alloc (.cells (setA N) 27)).alloc (.cells #[.slice none 0 0] 22)).alloc (.cells (setA N) 27)) (w.heap.size + 1) 22 (.slice none 0 0) := by
    have := Boxed.new (w.alloc (.cells (setA N) 27)) 22 (.slice none 0 0)
    rw [World.size_alloc] at this
    exact this.alloc _
  refine wpIn_rangeFunc_ownG rfl (by omega) (gf := 55) (lb := #[.pointer (some ⟨w.heap.size + 1 + 1, 0, none⟩)]) rfl trivial (enters_of Tryd.func55 (by kernel_rfl) rfl)
    (each_stops (5 - 1) (by omega) (w.heap.size + 1 + 1) w.heap.size N _ (by simp) h3 (hT.below hB0) hgT) belowK_t (belowK_b (by simp; omega)) (Below.refl _ _) (fun _ => rfl)
    (fun pre W => (∃ v, Boxed W (w.heap.size + 1) 22 v ∧ W.ownsRow w.heap.size 3 1 v pre.length (pre.map (Value.int .i64)) ∧ (v = .slice none 0 0 ↔ pre = [])) ∧ Below w.heap.size w W)
    (fun _ _ _ => False)
    (OwnFrom.and (Own.from (holdsRow_own w.heap.size (w.heap.size + 1) 22 3 1 (fun pre : List Int => pre.length) (fun pre => pre.map (Value.int .i64)) (fun pre v => v = .slice none 0 0 ↔ pre = [])) _) (ownFrom_below (Nat.le_refl _) (by simp; omega)))
    (fun _ _ _ _ _ hs _ _ => hs)
    ⟨⟨_, bO, World.ownsRow_nil _ _ _ _, by simp⟩, hB0⟩
    (fun x => { tmps := #[.agg (setA N), .pointer (some ⟨w.heap.size, 0, none⟩), .pointer (some ⟨w.heap.size + 1, 0, none⟩), .int .i64 x, .agg (setA N), .func (.func 55) #[] #[.pointer (some ⟨w.heap.size + 1 + 1, 0, none⟩)], .int .i64 x, undef, undef, undef, undef, undef], defers := [] }) ?assign ?body ?done ?stop
  case assign =>
    intro l x W K hK
    gi_wp2
    exact hK
  case body =>
    rintro l pre x W ⟨⟨v, hv, hrow, hnil⟩, hB⟩ hlt
    have hc := hv.cell
    gi_wp2_with (gi_at_builtin; refine wpListIn_append_own _ rfl _ _ 22 rfl w.heap.size 3 i0 (.int .i64 0) 1 8 Tryd.underlying22 hi hz0 hz1 hz2 rfl (by decide) _ _ _ rfl (hrow.alloc _) ⟨W.heap.size, 0, none⟩ 1 1 [.int .i64 x] rfl rfl (cell_one_new _ _ _) (by simp [Value.oneCell']) (by unfold maxLen; omega) (by omega) (by have := hB.size; simp; omega) ?_; intro v' w1 hown' hgrow _; obtain ⟨g', cap', rfl⟩ := ownsRow_succ hown'; obtain ⟨hv1, hv2, hr2, hk2, hb2⟩ := hv.appended (by decide) hrow hB.size (by omega) hown' hgrow; have hc1 := hv1.cell; have hf1 := hv1.frozen)
    exact ⟨hk2.from _, hb2, ⟨_, hv2, by simpa using hr2, by simp⟩, hB.trans hb2⟩
  case done =>
    rintro D ys W hD rfl ⟨⟨v, hv, hrow, hnil⟩, hB⟩ hK
    obtain ⟨A', c', rfl⟩ := own_form hrow
    have hc := hv.cell
    have hf := hv.frozen
    gi_wp2
    have hK2 : (W.setCell ⟨w.heap.size + 1, 0, none⟩ (.slice A' (upTo N 1024).length c')).heap[D]? = some (.deferred (some [])) := (KeepsOthers.setCell _ _ _).same D _ hK rfl
    have hB2 := hv.set (.slice A' (upTo N 1024).length c')
    have hDs : w.heap.size ≤ D := by simp at hD; omega
    have hne : D ≠ w.heap.size + 1 := by simp at hD; omega
    refine ⟨by simp, .inl ⟨_, _, rfl, run_takeDeferred hK2, ?_⟩⟩
    have hv3 : Boxed ((W.setCell ⟨w.heap.size + 1, 0, none⟩ (.slice A' (upTo N 1024).length c')).putObj D (.deferred none)) (w.heap.size + 1) 22 (.slice A' (upTo N 1024).length c') := hB2.kept (grownBy_putObj' _ _ _) (by simp; omega)
    refine ⟨_, results_cell_one rfl _ _ _ _ rfl hv3.cell (by kernel_rfl), _, rfl, ?_, hnil, ?_⟩
    · exact ownsRow_putObj (hrow.kept (grownBy_setCell' W _ _) (.inr (hv.not_row (by decide) hrow).symm)) _ hK2 rfl
    · exact (hB.setCell (p := ⟨w.heap.size + 1, 0, none⟩) (by simp) _).grown (grownBy_putObj' _ _ _) (by simp [World.setCell]; exact hB.size) (fun k e => by cases e; exact hDs)
  case stop =>
    rintro D c pre W _ _ h _
    exact h.elim

end Go.Proofs.YtjichaeegheacaaDoor
