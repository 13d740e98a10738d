
/-
  Package flow: each: the iterator over all edges.
-/
import Derived.Test.YtjichaeegheacaaFunc
import Derived.RangeFuncBound
namespace Go.Proofs.Ytjichaeegheacaa
open Go Go.RowKit
attribute [local go_sem] Oper.semAt_some

/-- What a loop over the edges leaves alone: rows of ints, blocks, functions. -/
structure KeepE (W W' : World) : Prop where
  size : W.heap.size ≤ W'.heap.size
  same : ∀ (k : Nat) (c : Array Value) (t : TypeId), W.heap[k]? = some (.cells c t (0, 0)) → (t = 3 ∨ t = 44 ∨ t = 25) → W'.heap[k]? = some (.cells c t (0, 0))
theorem KeepE.refl (W : World) : KeepE W W := ⟨Nat.le_refl _, fun _ _ _ h _ => h⟩
theorem KeepE.trans {A B C : World} (h : KeepE A B) (k : KeepE B C) : KeepE A C := ⟨Nat.le_trans h.size k.size, fun i c t hi ht => k.same i c t (h.same i c t hi ht) ht⟩
theorem keepE_b (W : World) (l : Nat) (o o' : Obj) (h : W.heap[l]? = some o) (ho : o.isCells = false) : KeepE W (W.putObj l o') := by
  refine ⟨by simp, fun k c t hk _ => ?_⟩
  have hne : k ≠ l := by rintro rfl; rw [h] at hk; cases hk; cases ho
  exact ((grownBy_putObj' W l o').block k (blk_lt hk) (fun e => hne (Option.some.inj e))).trans hk

/-- The store of a whole block, within a fence. -/
theorem wpListIn_store_row {F : Fence} {n : Nat} {P : Program} {ops : Array Oper} {rest : List Oper} {o : Oper} {a : Act} {w : World} {Q : Exit → Act → World → Prop} (hgd : o.guard = none) (ty : TypeId) (x y : Operand) (ho : o.op = .store ty x y)
    (g : Nat) (cells : Array Value) (hx : a.eval x = .pointer (some ⟨g, 0, none⟩)) (hy : a.eval y = .agg cells) (t : TypeId) (old : Array Value) (hg : w.heap[g]? = some (.cells old t (0, 0)))
    (hi : (P.info? ty).map (·.size) = some cells.size) (hold : old.size = cells.size) (h1 : cells.all (·.oneCell') = true)
    (h : wpListIn F n P ops Q rest (a.put o.dst undef) (w.setRow g cells)) : wpListIn F n P ops Q (o :: rest) a w := by
  refine wpListIn_plain hgd fun K hK => ?_
  unfold Oper.wpIn
  refine ⟨by simp [Oper.about, ho], ?_⟩
  rw [Oper.semAt_plain F _ _ (by rw [ho]; intro c hc; cases hc)]
  have hrun : (execOp a.eval o).run P w = .ok .skip (w.setRow g cells) := by
    unfold execOp
    simp only [ho, hx, hy, Instr.storeAt, Instr.sureAddr, Sem.run_bind, Sem.run_pure, Result.andThen_ok, run_storeVar_row w g t ty old cells hg hi hold h1]
  rw [hrun]
  exact hK _ _ h

set_option maxRecDepth 100000 in
set_option maxHeartbeats 1000000 in
theorem flowEach_in (n : Nat) (P B : Value) (w : World) :
    CallsIn Fence.wide n Try.prog 17 #[.agg #[P, B]] w fun e w' => e = .returned (.func (.func 24) #[] #[.pointer (some ⟨w.heap.size, 0, none⟩)]) ∧ w.alloc (.cells #[P, B] 25) = w' := by
  have hmf : ∀ (fn : Fn) (first cap : Array Value) (w : World), (Instr.makeFunc fn first cap).run Try.prog w = .ok (.func fn first cap) w := fun _ _ _ _ => rfl
  refine callsIn_of_wp Try.func17 rfl trivial ?_ rfl
  simp only [Try.ntmps17, List.size_toArray, List.length_cons, List.length_nil, Nat.reduceAdd, Nat.reduceSub, Array.replicate_succ, Array.replicate_zero, List.push_toArray, List.append_toArray, List.nil_append, List.cons_append]
  gi_wp2
  go_ret
  exact ⟨rfl, rfl⟩

theorem own_keepE {W W' : World} {B : Nat} {v : Value} {n : Nat} {xs : List Value} (h : W.ownsRow B 3 1 v n xs) (hk : KeepE W W') : W'.ownsRow B 3 1 v n xs := by
  refine ⟨h.1, ?_⟩
  rcases h.2 with h | ⟨g, cap, cur, e, hb, hg, r⟩
  · exact .inl h
  · exact .inr ⟨g, cap, cur, e, hb, hk.same g cur _ hg (.inl rfl), r⟩
theorem below_grown {W W' : World} (h : Below W.heap.size W W') : W.grownBy W' none := ⟨h.os, h.tape, h.output, h.size, fun k hk _ => h.block k hk⟩

set_option maxRecDepth 100000 in
set_option maxHeartbeats 2000000 in
theorem flowEach1_in (n : Nat) (hn : 1 ≤ n) (l Fb : Nat) (P : Value) (A : Option Addr) (c : Nat) (bs : List Blk) (wE : World) (hr : RF wE A bs) (J Jx : List Ed → World → Prop) (B0 : Nat) (hJ : AbidesFrom B0 J)
    (hY : ∀ pre x W, J pre W → pre.length < 2 * bs.length + 1 → pre ++ [x] <+: edgesOf bs → YieldAt Fence.wide (n - 1) Try.prog l #[.agg (Ed.val x)] W fun e W' =>
      (e = .returned (.bool true) ∧ J (pre ++ [x]) W' ∧ Below wE.heap.size W W' ∧ KeepE W W') ∨ (e = .returned (.bool false) ∧ Jx (pre ++ [x]) W'))
    (W : World) (hW : Below wE.heap.size wE W) (hs : W.heap[Fb]? = some (.cells #[P, .slice A bs.length c] 25 (0, 0))) (h0 : J [] W) :
    CallsIn Fence.wide n Try.prog 24 #[.func (.yield l) #[] #[], .pointer (some ⟨Fb, 0, none⟩)] W fun e W' => (∃ v, e = .returned v) ∧
      ((∃ ys, ys = edgesOf bs ∧ J ys W') ∨ (∃ pre, pre <+: edgesOf bs ∧ Jx pre W')) := by
  refine callsIn_of_wp Try.func24 rfl trivial ?_ rfl
  simp only [Try.ntmps24, List.size_toArray, List.length_cons, List.length_nil, Nat.reduceAdd, Nat.reduceSub, Array.replicate_succ, Array.replicate_zero, List.push_toArray, List.append_toArray, List.nil_append, List.cons_append]
  have hc1 : W.cell? ⟨Fb, 1, none⟩ = some (.slice A bs.length c) := (cell_of_row W _ _ _ _ _ hs).trans rfl
  gi_wp2
  gi_loopw [10] (fun i wr => ∃ k : Nat, k ≤ bs.length ∧ i = .int .i64 k ∧ J (edgesTo bs k) wr ∧ Below wE.heap.size wE wr) (fun i _ => bs.length - (intOf i).toNat)
  case atStart => exact ⟨0, Nat.zero_le _, rfl, h0, hW⟩
  case round =>
    obtain ⟨k, hk, rfl, hJk, hWk⟩ := hrel
    by_cases hlt : k < bs.length
    · have hlen := hr.len
      obtain ⟨b, off, rfl, hbl, hok, hcs⟩ := (hr.below hWk).at_ hlt
      have hd : decide ((k : Int) < (bs.length : Int)) = true := decide_eq_true (by omega)
      have e0 : wr.cell? ⟨b, off + k * 5, none⟩ = some (gB bs k).ins := by have := hcs 0 (by decide); rw [Nat.mul_comm] at this; exact this
      have e1 : wr.cell? ⟨b, off + k * 5 + 1, none⟩ = some (.int .i64 (gB bs k).t.k) := by have := hcs 1 (by decide); rw [Nat.mul_comm] at this; exact this
      have e2 : wr.cell? ⟨b, off + k * 5 + 2, none⟩ = some (.int .i64 (gB bs k).t.a) := by have := hcs 2 (by decide); rw [Nat.mul_comm] at this; exact this
      have e3 : wr.cell? ⟨b, off + k * 5 + 3, none⟩ = some (.int .i64 (gB bs k).t.t0) := by have := hcs 3 (by decide); rw [Nat.mul_comm] at this; exact this
      have e4 : wr.cell? ⟨b, off + k * 5 + 4, none⟩ = some (.int .i64 (gB bs k).t.t1) := by have := hcs 4 (by decide); rw [Nat.mul_comm] at this; exact this
      clear hcs
      have hone := hr.one k hlt
      have hz := blk_new wr (.cells #[.slice none 0 0, .int .i64 0, .int .i64 0, .int .i64 0, .int .i64 0] 44)
      have hz2 := blk_setRow hz (cs' := (gB bs k).val)
      have hWz : Below wE.heap.size wE ((wr.alloc (.cells #[.slice none 0 0, .int .i64 0, .int .i64 0, .int .i64 0, .int .i64 0] 44)).setRow wr.heap.size (gB bs k).val) := below_setRow (hWk.alloc hWk.size _) hWk.size _
      have f1 := (cell_of_row _ wr.heap.size 1 _ _ _ hz2).trans (show (gB bs k).val[1]? = some (.int .i64 (gB bs k).t.k) from rfl)
      have f2 := (cell_of_row _ wr.heap.size 2 _ _ _ hz2).trans (show (gB bs k).val[2]? = some (.int .i64 (gB bs k).t.a) from rfl)
      have f3 := (cell_of_row _ wr.heap.size 3 _ _ _ hz2).trans (show (gB bs k).val[3]? = some (.int .i64 (gB bs k).t.t0) from rfl)
      have f4 := (cell_of_row _ wr.heap.size 4 _ _ _ hz2).trans (show (gB bs k).val[4]? = some (.int .i64 (gB bs k).t.t1) from rfl)
      gi_wp2_with (refine wpListIn_store_row rfl _ _ _ rfl wr.heap.size (gB bs k).val rfl rfl _ _ hz (by kernel_rfl) rfl (Blk.val_one hone) ?_)
      refine ⟨trivial, ?_⟩
      refine ((callsIn_wide (n := n - 1)).2 (To_any (gB bs k).t _ hok)).mono ?_
      rintro e w2 ⟨v, rfl, ho, hnl, hb2⟩
      have hJ2 : J (edgesTo bs k) w2 := hJ _ _ _ none hJk (below_grown ((below_setRow ((Below.refl _ wr).alloc (Nat.le_refl _) _) (Nat.le_refl _) _).trans (hb2.mono (by simp)))) (fun r e => by cases e)
      have hW2 := hWz.trans (hb2.mono hWz.size)
      have hi64 : ∀ x ∈ toL (gB bs k).t, I64 x := by
        obtain ⟨h1, h2, h3, h4⟩ := hok
        intro x hx
        unfold toL at hx
        split at hx
        · split at hx
          · simp at hx; subst hx; exact h3
          · split at hx
            · simp at hx; rcases hx with rfl | rfl <;> assumption
            · cases hx
        · cases hx
      have hll := toL_len (gB bs k).t
      have hpre := fun m hm => edges_pre bs (m := m) hlt hm
      have hE : edgesTo bs (k + 1) = edgesTo bs k ++ armE k (toL (gB bs k).t) (toL (gB bs k).t).length := rfl
      have hEl := edgesTo_len bs k
      generalize toL (gB bs k).t = L at *
      clear f1 f2 f3 f4 hz2 hz e0 e1 e2 e3 e4 hWz hb2 hJk hWk
      obtain ⟨Lv, lc, rfl⟩ := own_form ho
      gi_wp2
      gi_loopw [19] (fun i wq => ∃ m : Nat, m ≤ L.length ∧ i = .int .i64 m ∧ J (edgesTo bs k ++ armE k L m) wq ∧ Below wE.heap.size wE wq ∧ wq.ownsRow 0 3 1 (.slice Lv L.length lc) L.length (L.map (Value.int .i64))) (fun i _ => L.length - (intOf i).toNat)
      case atStart => exact ⟨0, Nat.zero_le _, rfl, by simpa [armE] using hJ2, hW2, ⟨ho.1, ho.2.imp id (fun ⟨g, cap, cur, e, hb, r⟩ => ⟨g, cap, cur, e, Nat.zero_le _, r⟩)⟩⟩
      case round =>
        obtain ⟨m, hm, rfl, hJm, hWm, hom⟩ := hrel
        by_cases hml : m < L.length
        · obtain ⟨A', c', e', _, hRI⟩ := own_RI hom hi64 (by omega)
          cases e'
          obtain ⟨bL, oL, rfl, hbL, hcL, hxL⟩ := hRI.at_ hml
          have hd2 : decide ((m : Int) < (L.length : Int)) = true := decide_eq_true (by omega)
          obtain ⟨fn, tmps, assign, body, hy, hR⟩ := hY (edgesTo bs k ++ armE k L m) ⟨k, m, gI L m⟩ _ hJm (by rw [List.length_append, armE_len]; omega) (by rw [List.append_assoc, ← armE_succ]; exact hpre (m + 1) (by omega))
          simp only [Ed.val] at hy
          rw [List.append_assoc, ← armE_succ] at hR
          gi_wp2
          refine hR.mono ?_
          rintro e W3 (⟨rfl, hJ3, hB3, hk3⟩ | ⟨rfl, hJx3⟩)
          · gi_wp2
            go_roundw
            case rel => exact ⟨m + 1, by omega, by go_num, hJ3, hWm.trans hB3, own_keepE hom hk3⟩
            case measure => simp [intOf]; omega
          · gi_wp2
            refine bodyPost_ret (results_none rfl _ _ _) rfl ?_
            exact ⟨⟨_, rfl⟩, .inr ⟨_, hpre (m + 1) (by omega), hJx3⟩⟩
        · obtain rfl : m = L.length := by omega
          have hd2 : decide ((L.length : Int) < (L.length : Int)) = false := by simp
          rw [← hE] at hJm
          gi_wp2
          go_roundw
          case rel => exact ⟨k + 1, by omega, by go_num, hJm, hWm⟩
          case measure => simp [intOf]; omega
    · obtain rfl : k = bs.length := by omega
      gi_wp2
      go_end0
      exact ⟨⟨_, rfl⟩, .inl ⟨_, rfl, hJk⟩⟩

theorem flowEach_stops (n : Nat) (hn : 1 ≤ n) (Fb : Nat) (P : Value) (A : Option Addr) (c : Nat) (bs : List Blk) (wE : World) (hr : RF wE A bs) (w : World) (hwE : Below wE.heap.size wE w)
    (hs : w.heap[Fb]? = some (.cells #[P, .slice A bs.length c] 25 (0, 0))) :
    SeqStopsK Fence.wide n Try.prog 24 #[.pointer (some ⟨Fb, 0, none⟩)] (fun x : Ed => #[Value.agg x.val]) (fun W W' => Below wE.heap.size W W' ∧ KeepE W W') (fun ys => ys = edgesOf bs) (fun pre => pre <+: edgesOf bs) (2 * bs.length + 1) w := fun l J Jx W hW hJ _ hY h0 =>
  flowEach1_in n hn l Fb P A c bs wE hr J Jx _ hJ (fun pre x W1 h1 h2 _ => hY pre x W1 h1 h2) W (hwE.trans (hW.mono hwE.size)) (blk_below hW hs (blk_lt hs)) h0

/-- An edge whose numbers are Go's. -/
abbrev EdI := { x : Ed // I64 x.f ∧ I64 x.a ∧ I64 x.t }
def unE (pre : List EdI) : List Ed := pre.map (·.1)
theorem unE_snoc (pre : List EdI) (x : EdI) : unE (pre ++ [x]) = unE pre ++ [x.1] := by simp [unE]
theorem unE_len (pre : List EdI) : (unE pre).length = pre.length := by simp [unE]
theorem unE_inj : ∀ {a b : List EdI}, unE a = unE b → a = b
  | [], [], _ => rfl
  | [], _ :: _, h => by simp [unE] at h
  | _ :: _, [], h => by simp [unE] at h
  | a :: l, b :: m, h => by
    simp only [unE, List.map_cons, List.cons.injEq] at h
    rw [Subtype.ext h.1, unE_inj h.2]

theorem flowEach_stopsI (n : Nat) (hn : 1 ≤ n) (Fb : Nat) (P : Value) (A : Option Addr) (c : Nat) (bs : List Blk) (wE : World) (hr : RF wE A bs) (hE : ∀ e ∈ edgesOf bs, I64 e.f ∧ I64 e.a ∧ I64 e.t) (w : World) (hwE : Below wE.heap.size wE w)
    (hs : w.heap[Fb]? = some (.cells #[P, .slice A bs.length c] 25 (0, 0))) :
    SeqStopsK Fence.wide n Try.prog 24 #[.pointer (some ⟨Fb, 0, none⟩)] (fun x : EdI => #[Value.agg x.1.val]) (fun W W' => Below wE.heap.size W W' ∧ KeepE W W') (fun ys => unE ys = edgesOf bs) (fun pre => unE pre <+: edgesOf bs) (2 * bs.length + 1) w := fun l J Jx W hW hJ _ hY h0 => by
  refine (flowEach1_in n hn l Fb P A c bs wE hr (fun pre W => ∃ q, unE q = pre ∧ J q W) (fun pre W => ∃ q, unE q = pre ∧ Jx q W) _ (fun s A B row ⟨q, e, hq⟩ hg hr => ⟨q, e, hJ q A B row hq hg hr⟩) (fun pre x W1 ⟨q, e, hq⟩ h2 hp => ?_) W (hwE.trans (hW.mono hwE.size)) (blk_below hW hs (blk_lt hs)) ⟨[], rfl, h0⟩).mono ?_
  · have hx : x ∈ edgesOf bs := hp.subset (by simp)
    have := hY q ⟨x, hE x hx⟩ W1 hq (by rw [← unE_len, e]; exact h2)
    refine YieldAt.mono this ?_
    rintro e' W' (⟨h1, h3, h4⟩ | ⟨h1, h3⟩)
    · exact .inl ⟨h1, ⟨_, by rw [unE_snoc, e], h3⟩, h4.1, h4.2⟩
    · exact .inr ⟨h1, ⟨_, by rw [unE_snoc, e], h3⟩⟩
  · rintro e W' ⟨h1, ⟨ys, h2, q, h3, h4⟩ | ⟨pre, h2, q, h3, h4⟩⟩
    · exact ⟨h1, .inl ⟨q, h3.trans h2, h4⟩⟩
    · exact ⟨h1, .inr ⟨q, by show unE q <+: _; rw [h3]; exact h2, h4⟩⟩

end Go.Proofs.Ytjichaeegheacaa
