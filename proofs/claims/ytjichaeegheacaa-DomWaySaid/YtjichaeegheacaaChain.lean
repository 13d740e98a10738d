
/-
  Package dom: chain: the iterator over what stands over a block.
-/
import Derived.Test.YtjichaeegheacaaMeet
import Derived.Test.YtjichaeegheacaaClosed
namespace Go.Proofs.Ytjichaeegheacaa
open Go Go.RowKit
attribute [local go_sem] Oper.semAt_some

/-- What stands over a place, itself first. -/
def chF (T : PTree) : Nat → Nat → List Nat
  | 0, i => [i]
  | f + 1, i => i :: (match T i with | none => [] | some j => chF T f j)
theorem chF_at {T : PTree} (hT : WfT T) : ∀ (f i : Nat), i ≤ f → chF T f i = i :: (match T i with | none => [] | some j => chF T j j) := by
  intro f
  induction f using Nat.strongRecOn with
  | _ f ih =>
    intro i hi
    cases f with
    | zero =>
      have : i = 0 := by omega
      subst this
      rw [hT.root]; rfl
    | succ f =>
      rw [chF]
      cases hq : T i with
      | none => rfl
      | some j =>
        have hl := hT.lt _ _ hq
        simp only
        by_cases e : j = f
        · subst e; rfl
        · rw [ih f (by omega) j (by omega), ih j (by omega) j (Nat.le_refl _)]
def chT (T : PTree) (i : Nat) : List Nat := chF T i i
theorem chT_eq {T : PTree} (hT : WfT T) (i : Nat) : chT T i = i :: (match T i with | none => [] | some j => chT T j) := chF_at hT i i (Nat.le_refl _)
theorem chT_len {T : PTree} (hT : WfT T) : ∀ i, (chT T i).length ≤ i + 1 := by
  intro i
  induction i using Nat.strongRecOn with
  | _ i ih =>
    rw [chT_eq hT]
    cases hq : T i with
    | none => simp
    | some j =>
      have := ih j (hT.lt _ _ hq)
      have hl := hT.lt _ _ hq
      simp only [List.length_cons]; omega
theorem mem_chT {T : PTree} (hT : WfT T) (d : Nat) : ∀ i, d ∈ chT T i ↔ An T i d := by
  intro i
  induction i using Nat.strongRecOn with
  | _ i ih =>
    rw [chT_eq hT, List.mem_cons]
    cases hq : T i with
    | none =>
      constructor
      · rintro (rfl | h)
        · exact .refl _
        · cases h
      · intro h; exact .inl (h.none hq)
    | some j =>
      simp only
      rw [ih j (hT.lt _ _ hq)]
      constructor
      · rintro (rfl | h)
        · exact .refl _
        · exact .step hq h
      · intro h
        by_cases e : d = i
        · exact .inl e
        · exact .inr (h.inv hq e)
/-- The chain of a block, in blocks; of one that is not reached none. -/
def chI (l : List Int) (T : PTree) (b : Int) : List Int := if b ∈ l then (chT T (placeI l b).toNat).map (gI l) else []

/-- A row of ints that a loop leaves alone. -/
def RdAt (n₀ vb : Nat) (W : World) (A : Option Addr) (U : List Int) : Prop :=
  ∀ k, k < U.length → ∃ b off, A = some ⟨b, off, none⟩ ∧ b < n₀ ∧ b ≠ vb ∧ W.cell? ⟨b, off + k, none⟩ = some (.int .i64 (gI U k)) ∧ I64 (gI U k)
theorem RdAt.below {n₀ vb : Nat} {W W' : World} {A : Option Addr} {U : List Int} (h : RdAt n₀ vb W A U) (hb : Below n₀ W W') : RdAt n₀ vb W' A U := fun k hk => by
  obtain ⟨b, off, e, h1, h2, h3, h4⟩ := h k hk
  exact ⟨b, off, e, h1, h2, (hb.cell (p := ⟨b, off + k, none⟩) h1).trans h3, h4⟩
theorem RdAt.set {n₀ vb : Nat} {W : World} {A : Option Addr} {U : List Int} (h : RdAt n₀ vb W A U) (v : Value) : RdAt n₀ vb (W.setCell ⟨vb, 0, none⟩ v) A U := fun k hk => by
  obtain ⟨b, off, e, h1, h2, h3, h4⟩ := h k hk
  refine ⟨b, off, e, h1, h2, ?_, h4⟩
  rw [← h3]
  unfold World.cell?
  rw [blk_far (p := ⟨vb, 0, none⟩) h2]

set_option maxRecDepth 100000 in
set_option maxHeartbeats 2000000 in
theorem chain1_in (n : Nat) (hn : 1 ≤ n) (lp n₀ Tb Vb B0 : Nat) (Au Ap : Option Addr) (cu cp : Nat) (l : List Int) (nn : Nat) (T : PTree) (U Pl : List Int) (hT : TreeOk l nn T U Pl) (b : Int) (hb : I64 b) (hTb : Tb < n₀) (hVb : Vb < n₀) (hne : Tb ≠ Vb) (J Jx : List Int → World → Prop) (hJ : Stays Vb B0 J)
    (hY : ∀ pre x W, J pre W → pre.length < l.length → YieldAt Fence.wide (n - 1) Try.prog lp #[.int .i64 x] W fun e W' =>
      (e = .returned (.bool true) ∧ J (pre ++ [x]) W' ∧ Below n₀ W W') ∨ (e = .returned (.bool false) ∧ Jx (pre ++ [x]) W'))
    (hJA : ∀ pre W W', J pre W → Below W.heap.size W W' → J pre W')
    (W : World) (hz : n₀ ≤ W.heap.size) (ht : W.heap[Tb]? = some (.cells #[.slice Au U.length cu, .slice Ap Pl.length cp] 57 (0, 0))) (hv : W.heap[Vb]? = some (.cells #[.int .i64 b] 3 (0, 0)))
    (hu : RdAt n₀ Vb W Au U) (hp : RI W Ap Pl) (h0 : J [] W) :
    CallsIn Fence.wide n Try.prog 37 #[.func (.yield lp) #[] #[], .pointer (some ⟨Tb, 0, none⟩), .pointer (some ⟨Vb, 0, none⟩)] W fun e W' => (∃ v, e = .returned v) ∧
      ((∃ ys, ys = chI l T b ∧ J ys W') ∨ (∃ pre, pre <+: chI l T b ∧ Jx pre W')) := by
  have hcv := cell_of_one hv
  refine callsIn_of_wp Try.func37 rfl trivial ?_ rfl
  simp only [Try.ntmps37, List.size_toArray, List.length_cons, List.length_nil, Nat.reduceAdd, Nat.reduceSub, Array.replicate_succ, Array.replicate_zero, List.push_toArray, List.append_toArray, List.nil_append, List.cons_append]
  gi_wp2_with (refine wpListIn_load_row rfl _ _ rfl _ rfl _ _ _ _ ht Try.underlying57 rfl (by kernel_rfl) ?_)
  refine ⟨trivial, ?_⟩
  refine ((callsIn_wide (n := n - 1)).2 (reached_any (.slice Au U.length cu) Ap cp Pl b W hb hp)).mono ?_
  rintro e W1 ⟨rfl, hb1⟩
  have hJ1 := hJA _ _ _ h0 hb1
  have hreach := hT.reach hb
  cases hr : reachI Pl b
  · have hno : chI l T b = [] := by
      unfold chI
      rw [if_neg (fun h => by rw [hreach.2 h] at hr; cases hr)]
    have hno' := Lib.hid hno
    clear hreach hno
    gi_wp2
    refine bodyPost_ret (results_none rfl _ _ _) rfl ?_
    exact ⟨⟨_, rfl⟩, .inl ⟨_, hno'.out.symm, hJ1⟩⟩
  · have hin : b ∈ l := hreach.1 hr
    obtain ⟨i0, hi0, hg0, hp0⟩ := mem_place hin
    have hC : chI l T b = (chT T i0).map (gI l) := by
      unfold chI
      rw [if_pos hin, hp0]; rfl
    have hlen := chT_len hT.wf i0
    have hC' := Lib.hid hC
    have hClen : (chI l T b).length ≤ l.length := by rw [hC, List.length_map]; omega
    obtain ⟨C, hCC⟩ : ∃ C, C = chI l T b := ⟨_, rfl⟩
    rw [← hCC] at hC' hClen
    have hC2 := Lib.hid hCC
    clear hreach hC hCC
    have hv1 := blk_below hb1 hv (blk_lt hv)
    have ht1 := blk_below hb1 ht (blk_lt ht)
    have hu1 := hu.below (hb1.mono hz)
    have hz1 : n₀ ≤ W1.heap.size := Nat.le_trans hz hb1.size
    clear hv ht hu hp hcv hb1 hz h0 hlen
    gi_wp2
    gi_loopw [] (fun wr => ∃ (pre : List Int) (v : Int), ((∃ i, i < l.length ∧ v = gI l i ∧ pre ++ (chT T i).map (gI l) = C) ∨ (v = -1 ∧ pre = C)) ∧ J pre wr ∧ wr.heap[Vb]? = some (.cells #[.int .i64 v] 3 (0, 0)) ∧ wr.heap[Tb]? = some (.cells #[.slice Au U.length cu, .slice Ap Pl.length cp] 57 (0, 0)) ∧ RdAt n₀ Vb wr Au U ∧ n₀ ≤ wr.heap.size) (fun wr => (placeI l (intOf ((wr.cell? ⟨Vb, 0, none⟩).getD undef)) + 1).toNat)
    case atStart => exact ⟨[], b, .inl ⟨i0, hi0, hg0.symm, by rw [List.nil_append]; exact hC'.out.symm⟩, hJ1, hv1, ht1, hu1, hz1⟩
    case round =>
      clear hJ1 hv1 ht1 hu1 hz1
      obtain ⟨pre, v, hvv, hJr, hvr, htr, hur, hzr⟩ := hrel
      have hcv := cell_of_one hvr
      rcases hvv with ⟨i, hi, rfl, hpre⟩ | ⟨rfl, rfl⟩
      · obtain ⟨k, ek, hk⟩ := hT.nat hi
        obtain ⟨up1, _⟩ := hT.upk hi ek
        have hdd : decide (gI l i ≥ 0) = true := decide_eq_true (by omega)
        rw [chT_eq hT.wf, List.map_cons] at hpre
        have hpl : pre.length < l.length := by
          have := congrArg List.length hpre
          rw [List.length_append, List.length_cons] at this
          omega
        have hpre2 : pre ++ [gI l i] <+: C := ⟨_, by rw [← hpre, List.append_assoc]; rfl⟩
        have hnext := hpre
        have hpi := place_gI hT.nd hi
        have hpre' := Lib.hid hpre
        have hpre2' := Lib.hid hpre2
        have hpi' := Lib.hid hpi
        have ek2 := Lib.hid ek
        have hcv2 := Lib.hid hcv
        clear hpre hnext hpi hpre2 ek
        obtain ⟨fn, tmps, assign, body, hy, hR⟩ := hY pre (gI l i) wr hJr hpl
        gi_wp2
        refine hR.mono ?_
        rintro e W3 (⟨rfl, hJ3, hB3⟩ | ⟨rfl, hJx3⟩)
        · have hv3 : W3.heap[Vb]? = some (.cells #[.int .i64 (gI l i)] 3 (0, 0)) := (hB3.block Vb hVb).trans hvr
          have ht3 := (hB3.block Tb hTb).trans htr
          have hu3 := hur.below hB3
          have hz3 := Nat.le_trans hzr hB3.size
          obtain ⟨bu, ou, rfl, hbu, hbun, hcu, hxu⟩ := hu3 k (by rw [hT.lu]; exact hk)
          rw [up1] at hcu
          have c0 := (cell_of_row _ _ 0 _ _ _ ht3).trans (show #[Value.slice (some ⟨bu, ou, none⟩) U.length cu, .slice Ap Pl.length cp][0]? = some (.slice (some ⟨bu, ou, none⟩) U.length cu) from rfl)
          have cv3 := cell_of_one hv3
          have fv3 := free_of_one hv3
          have hkU : k < U.length := by rw [hT.lu]; exact hk
          have hUl : U.length ≤ 200 := by rw [hT.lu]; exact hT.nle
          have ek := ek2.out
          rw [ek] at cv3 hv3
          have hv4 := blk_set (i := 0) (v := .int .i64 (upI l T i)) hv3
          have ht4 := (blk_far (p := ⟨Vb, 0, none⟩) (v := .int .i64 (upI l T i)) hne).trans ht3
          have hu4 := hu3.set (.int .i64 (upI l T i))
          have hJ4 : J (pre ++ [gI l i]) (W3.setCell ⟨Vb, 0, none⟩ (.int .i64 (upI l T i))) := hJ _ _ _ (some Vb) hJ3 (grownBy_setCell' W3 Vb _) (fun r e => by cases e; exact .inl rfl)
          have hz4 : n₀ ≤ (W3.setCell ⟨Vb, 0, none⟩ (.int .i64 (upI l T i))).heap.size := by simpa using hz3
          have hk0 : (0 : Int) ≤ (k : Int) := by omega
          clear hv3 ht3 hu3 hJ3 hB3 hz3 ek up1 hvr htr hur hJr hcv hdd
          generalize hux : upI l T i = ux at *
          have hux' := Lib.hid hux
          clear hux
          gi_wp2
          go_roundw
          case rel =>
            refine ⟨pre ++ [gI l i], ux, ?_, hJ4, hv4, ht4, hu4, hz4⟩
            have h1 := hux'.out
            unfold upI at h1
            cases hq : T i with
            | none =>
              rw [hq] at h1
              refine .inr ⟨h1.symm, ?_⟩
              have := hpre'.out
              rw [hq] at this
              exact this
            | some j =>
              rw [hq] at h1
              have := hT.wf.lt _ _ hq
              refine .inl ⟨j, by omega, h1.symm, ?_⟩
              have := hpre'.out
              rw [hq] at this
              rw [List.append_assoc]
              exact this
          case measure =>
            rw [cell_of_one hv4, hcv2.out]
            have h1 := hux'.out
            have h2 := hpi'.out
            unfold upI at h1
            simp only [Option.getD_some, intOf]
            rw [h2]
            cases hq : T i with
            | none =>
              rw [hq] at h1
              simp only at h1
              rw [← h1, placeI_none (by
                cases hc : l.contains (-1) with
                | false => rfl
                | true =>
                  have := (hT.rg _ (List.contains_iff_mem.1 hc)).1
                  omega)]
              omega
            | some j =>
              rw [hq] at h1
              simp only at h1
              have := hT.wf.lt _ _ hq
              rw [← h1, place_gI hT.nd (by omega)]
              omega
        · gi_wp2
          go_end0
          exact ⟨⟨_, rfl⟩, .inr ⟨_, hC2.out ▸ hpre2'.out, hJx3⟩⟩
      · have hdd : decide ((-1 : Int) ≥ 0) = false := by decide
        gi_wp2
        refine ⟨fun f h => (by cases h), ?_⟩
        gi_wp2
        go_end0
        exact ⟨⟨_, rfl⟩, .inl ⟨_, hC2.out, hJr⟩⟩

theorem chain_moves (n : Nat) (hn : 1 ≤ n) (Tb Vb : Nat) (Au Ap : Option Addr) (cu cp : Nat) (l : List Int) (nn : Nat) (T : PTree) (U Pl : List Int) (hT : TreeOk l nn T U Pl) (b : Int) (hb : I64 b) (w : World) (hne : Tb ≠ Vb)
    (ht : w.heap[Tb]? = some (.cells #[.slice Au U.length cu, .slice Ap Pl.length cp] 57 (0, 0))) (hv : w.heap[Vb]? = some (.cells #[.int .i64 b] 3 (0, 0))) (hu : RdAt w.heap.size Vb w Au U) (hp : RI w Ap Pl) :
    SeqMoves Fence.wide n Try.prog 37 #[.pointer (some ⟨Tb, 0, none⟩), .pointer (some ⟨Vb, 0, none⟩)] (fun x : Int => #[Value.int .i64 x]) (Below w.heap.size) (fun ys => ys = chI l T b) (fun pre => pre <+: chI l T b) l.length Vb w := fun lp J Jx W hW hJ _ hY h0 =>
  chain1_in n hn lp w.heap.size Tb Vb W.heap.size Au Ap cu cp l nn T U Pl hT b hb (blk_lt ht) (blk_lt hv) hne J Jx hJ hY (fun pre A B h hb => hJ pre A B none h (below_grown hb) (fun r e => by cases e)) W hW.size (blk_below hW ht (blk_lt ht)) (blk_below hW hv (blk_lt hv)) (hu.below hW) (hp.below hW) h0

set_option maxRecDepth 100000 in
set_option maxHeartbeats 1000000 in
theorem chain_in (n : Nat) (V V' : Value) (b : Int) (w : World) :
    CallsIn Fence.wide n Try.prog 29 #[.agg #[V, V'], .int .i64 b] w fun e w' => e = .returned (.func (.func 37) #[] #[.pointer (some ⟨w.heap.size, 0, none⟩), .pointer (some ⟨w.heap.size + 1, 0, none⟩)]) ∧ (w.alloc (.cells #[V, V'] 57)).alloc (.cells #[.int .i64 b] 3) = w' := by
  have hmf : ∀ (fn : Fn) (first cap : Array Value) (w : World), (Instr.makeFunc fn first cap).run Try.prog w = .ok (.func fn first cap) w := fun _ _ _ _ => rfl
  refine callsIn_of_wp Try.func29 rfl trivial ?_ rfl
  simp only [Try.ntmps29, List.size_toArray, List.length_cons, List.length_nil, Nat.reduceAdd, Nat.reduceSub, Array.replicate_succ, Array.replicate_zero, List.push_toArray, List.append_toArray, List.nil_append, List.cons_append]
  gi_wp2
  go_ret
  exact ⟨rfl, rfl⟩

theorem RdAt.of {w : World} {A : Option Addr} {U : List Int} (h : RI w A U) {n₀ vb : Nat} {W : World} (hb : Below w.heap.size w W) (hn : w.heap.size ≤ n₀) (hv : w.heap.size ≤ vb) : RdAt n₀ vb W A U := fun k hk => by
  obtain ⟨b, off, e, h1, h2, h3⟩ := h.at_ hk
  exact ⟨b, off, e, by omega, by omega, (hb.cell (p := ⟨b, off + k, none⟩) h1).trans h2, h3⟩

/-- Does a stand over b? -/
def overI (l : List Int) (T : PTree) (a b : Int) : Bool := decide (a ∈ chI l T b)

set_option maxRecDepth 100000 in
set_option maxHeartbeats 2000000 in
theorem over_any (l : List Int) (nn : Nat) (T : PTree) (U Pl : List Int) (hT : TreeOk l nn T U Pl) (Au Ap : Option Addr) (cu cp : Nat) (a b : Int) (hb : I64 b) (w : World) (hu : RI w Au U) (hp : RI w Ap Pl) :
    Calls Try.prog 21 #[.agg #[.slice Au U.length cu, .slice Ap Pl.length cp], .int .i64 a, .int .i64 b] w (Fresh w (.bool (overI l T a b))) := by
  refine (callsIn_wide (n := 5)).1 ?_
  refine callsIn_of_wp_marks Try.func21 rfl trivial ?_ rfl
  simp only [Try.ntmps21, List.size_toArray, List.length_cons, List.length_nil, Nat.reduceAdd, Nat.reduceSub, Array.replicate_succ, Array.replicate_zero, List.push_toArray, List.append_toArray, List.nil_append, List.cons_append]
  have hs : (((w.alloc (.cells #[.slice Au U.length cu, .slice Ap Pl.length cp] 57)).alloc (.cells #[.int .i64 a] 3)).alloc (.cells #[.bool false] 4)).heap[w.heap.size]? = some (.cells #[.slice Au U.length cu, .slice Ap Pl.length cp] 57 (0, 0)) := (blk_old _ _ (by simp; omega)).trans ((blk_old _ _ (by simp)).trans (blk_new w _))
  gi_wp2_with (first | (refine wpListIn_load_row rfl _ _ rfl _ rfl _ _ _ _ hs Try.underlying57 rfl (by kernel_rfl) ?_) | (refine ⟨trivial, ?_⟩; gi_at_call 29; refine (chain_in _ _ _ _ _).mono ?_; rintro e w' ⟨rfl, rfl⟩))
  obtain ⟨W5, hW5⟩ : ∃ W5, ((((w.alloc (.cells #[.slice Au U.length cu, .slice Ap Pl.length cp] 57)).alloc (.cells #[.int .i64 a] 3)).alloc (.cells #[.bool false] 4)).alloc (.cells #[.slice Au U.length cu, .slice Ap Pl.length cp] 57)).alloc (.cells #[.int .i64 b] 3) = W5 := ⟨_, rfl⟩
  have hz5 : W5.heap.size = w.heap.size + 1 + 1 + 1 + 1 + 1 := by rw [← hW5]; simp
  have hB5 : Below w.heap.size w W5 := by
    rw [← hW5]
    exact (((((Below.refl _ w).alloc (Nat.le_refl _) _).alloc (by simp) _).alloc (by simp; omega) _).alloc (by simp; omega) _).alloc (by simp; omega) _
  have hba : W5.heap[w.heap.size + 1]? = some (.cells #[.int .i64 a] 3 (0, 0)) := by
    rw [← hW5]
    have := blk_new (w.alloc (.cells #[.slice Au U.length cu, .slice Ap Pl.length cp] 57)) (.cells #[.int .i64 a] 3)
    simp only [World.size_alloc] at this
    exact (blk_old _ _ (by simp; try omega)).trans ((blk_old _ _ (by simp; try omega)).trans ((blk_old _ _ (by simp)).trans this))
  have hbr : Boxed W5 (w.heap.size + 1 + 1) 4 (.bool false) := by
    rw [← hW5]
    have := Boxed.new ((w.alloc (.cells #[.slice Au U.length cu, .slice Ap Pl.length cp] 57)).alloc (.cells #[.int .i64 a] 3)) 4 (.bool false)
    simp only [World.size_alloc] at this
    exact (this.alloc _).alloc _
  have hbt : W5.heap[w.heap.size + 1 + 1 + 1]? = some (.cells #[.slice Au U.length cu, .slice Ap Pl.length cp] 57 (0, 0)) := by
    rw [← hW5]
    have := blk_new (((w.alloc (.cells #[.slice Au U.length cu, .slice Ap Pl.length cp] 57)).alloc (.cells #[.int .i64 a] 3)).alloc (.cells #[.bool false] 4)) (.cells #[.slice Au U.length cu, .slice Ap Pl.length cp] 57)
    simp only [World.size_alloc] at this
    exact (blk_old _ _ (by simp)).trans this
  have hbv : W5.heap[w.heap.size + 1 + 1 + 1 + 1]? = some (.cells #[.int .i64 b] 3 (0, 0)) := by
    rw [← hW5]
    have := blk_new ((((w.alloc (.cells #[.slice Au U.length cu, .slice Ap Pl.length cp] 57)).alloc (.cells #[.int .i64 a] 3)).alloc (.cells #[.bool false] 4)).alloc (.cells #[.slice Au U.length cu, .slice Ap Pl.length cp] 57)) (.cells #[.int .i64 b] 3)
    simp only [World.size_alloc] at this
    exact this
  try rw [hW5]
  clear hW5 hs
  refine wpIn_rangeFunc_moves (w.heap.size + 1 + 1 + 1 + 1) (by omega) rfl (by omega) (gf := 37) (lb := #[.pointer (some ⟨w.heap.size + 1 + 1 + 1, 0, none⟩), .pointer (some ⟨w.heap.size + 1 + 1 + 1 + 1, 0, none⟩)]) rfl trivial (enters_of Try.func37 (by kernel_rfl) rfl)
    (chain_moves (5 - 1) (by omega) (w.heap.size + 1 + 1 + 1) (w.heap.size + 1 + 1 + 1 + 1) Au Ap cu cp l nn T U Pl hT b hb W5 (by omega) hbt hbv (RdAt.of hu hB5 hB5.size (by omega)) (hp.below hB5)) belowK_t (fun W l o o' hl h hc => (Below.refl W5.heap.size W).grown (grownBy_putObj' W l o') (by have := blk_lt h; omega) (fun k e => by cases e; exact hl)) (fun _ => rfl)
    (fun pre W => ((W.heap[w.heap.size + 1]? = some (.cells #[.int .i64 a] 3 (0, 0)) ∧ W.heap[w.heap.size + 1 + 1]? = some (.cells #[.bool false] 4 (0, 0))) ∧ Below w.heap.size w W) ∧ a ∉ pre)
    (fun pre W => (W.heap[w.heap.size + 1 + 1]? = some (.cells #[.bool true] 4 (0, 0)) ∧ Below w.heap.size w W) ∧ a ∈ pre)
    ?hI ?hIx ⟨⟨⟨hba, hbr⟩, hB5⟩, by simp⟩
    (fun x => { tmps := #[.agg #[.slice Au U.length cu, .slice Ap Pl.length cp], .int .i64 a, .int .i64 b, .pointer (some ⟨w.heap.size, 0, none⟩), .pointer (some ⟨w.heap.size + 1, 0, none⟩), undef, .pointer (some ⟨w.heap.size + 1 + 1, 0, none⟩), .int .i64 x, .agg #[.slice Au U.length cu, .slice Ap Pl.length cp], .int .i64 b, .func (.func 37) #[] #[.pointer (some ⟨w.heap.size + 1 + 1 + 1, 0, none⟩), .pointer (some ⟨w.heap.size + 1 + 1 + 1 + 1, 0, none⟩)], .int .i64 x, undef, undef, undef], defers := [] })
    ?assign ?body ?done ?stop
  case hI =>
    exact (((stays_cells _ _ _ (by omega)).and (stays_cells _ _ _ (by omega))).and (stays_below w (by omega) (by omega) (Nat.le_refl _))).and (fun _ _ _ _ h _ _ => h)
  case hIx =>
    exact ((stays_cells _ _ _ (by omega)).and (stays_below w (by omega) (by omega) (Nat.le_refl _))).and (fun _ _ _ _ h _ _ => h)
  case assign =>
    intro lp x W K hK
    gi_wp2
    exact hK
  case body =>
    rintro lp pre x W ⟨⟨⟨ha1, hr1⟩, hB⟩, hno⟩ hlt
    have c1 := cell_of_one ha1
    have c2 := cell_of_one hr1
    have f2 := free_of_one hr1
    by_cases e : x = a
    · have hd : (x == a) = true := by simpa using e
      have e2 := Lib.hid e
      clear e
      gi_wp2
      refine ⟨(KeepsOthers.setCell _ _ _).from _, ⟨blk_set (i := 0) hr1, hB.setCell (p := ⟨w.heap.size + 1 + 1, 0, none⟩) (by simp; omega) _⟩, by simp [e2.out]⟩
    · have hd : (x == a) = false := by simpa using e
      have e2 := Lib.hid e
      clear e
      gi_wp2
      exact ⟨KeepsFrom.refl _ _, Below.refl _ _, ⟨⟨ha1, hr1⟩, hB⟩, by
        rw [List.mem_append]
        rintro (h | h)
        · exact hno h
        · simp at h; exact e2.out h.symm⟩
  case done =>
    rintro D ys W hD rfl ⟨⟨⟨ha1, hr1⟩, hB⟩, hno⟩ hK
    have c2 := cell_of_one hr1
    have f2 := free_of_one hr1
    have hres : overI l T a b = false := decide_eq_false hno
    have hres' := Lib.hid hres
    clear hres hno
    gi_wp2
    have hK2 : (W.setCell ⟨w.heap.size + 1 + 1, 0, none⟩ (.bool false)).heap[D]? = some (.deferred (some [])) := (KeepsOthers.setCell _ _ _).same D _ hK rfl
    have hB2 : Boxed (W.setCell ⟨w.heap.size + 1 + 1, 0, none⟩ (.bool false)) (w.heap.size + 1 + 1) 4 (.bool false) := blk_set (i := 0) hr1
    refine ⟨by simp, .inl ⟨_, _, rfl, run_takeDeferred hK2, ?_⟩⟩
    have hv3 : Boxed ((W.setCell ⟨w.heap.size + 1 + 1, 0, none⟩ (.bool false)).putObj D (.deferred none)) (w.heap.size + 1 + 1) 4 (.bool false) := hB2.kept (grownBy_putObj' _ _ _) (by simp; omega)
    refine ⟨_, results_cell_one rfl _ _ _ _ rfl hv3.cell (by kernel_rfl), by simp [hres'.out], ?_⟩
    exact (hB.setCell (p := ⟨w.heap.size + 1 + 1, 0, none⟩) (by simp; omega) _).grown (grownBy_putObj' _ _ _) (by simp [World.setCell]; exact hB.size) (fun k e => by cases e; omega)
  case stop =>
    rintro D pre W hD hpre ⟨⟨hr1, hB⟩, hin⟩ hK
    have hres : overI l T a b = true := decide_eq_true (hpre.subset hin)
    have hres' := Lib.hid hres
    clear hres hin hpre
    gi_wp2
    refine ⟨by simp, .inl ⟨_, _, rfl, run_takeDeferred hK, ?_⟩⟩
    have hr2 : Boxed W (w.heap.size + 1 + 1) 4 (.bool true) := hr1
    have hv3 : Boxed (W.putObj D (.deferred none)) (w.heap.size + 1 + 1) 4 (.bool true) := hr2.kept (grownBy_putObj' _ _ _) (by simp; omega)
    refine ⟨_, results_cell_one rfl _ _ _ _ rfl hv3.cell (by kernel_rfl), by simp [hres'.out], ?_⟩
    exact hB.grown (grownBy_putObj' _ _ _) hB.size (fun k e => by cases e; omega)

end Go.Proofs.Ytjichaeegheacaa
