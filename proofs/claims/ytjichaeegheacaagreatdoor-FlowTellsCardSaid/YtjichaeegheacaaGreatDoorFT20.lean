/-
  Reached
-/
import Derived.Test.YtjichaeegheacaaGreatDoorFT8
import Derived.Test.YtjichaeegheacaaGreatDoorFT4

/-
  Package flow: Reached.
-/
namespace Go.Proofs.YtjichaeegheacaaGreatDoor
open Go Go.RowKit

/-- One step from each of some blocks. -/
def stepN (bs : List Blk) (N : Nat) (l : List Int) : Nat := l.foldl (fun N b => withL N (suB bs b)) N
theorem stepN_sm (bs : List Blk) (l : List Int) : ∀ {N : Nat}, Sm N → Sm (stepN bs N l) := by
  induction l with
  | nil => intro N h; exact h
  | cons x l ih => intro N h; exact ih (withL_sm _ h)
theorem stepN_snoc (bs : List Blk) (N : Nat) (l : List Int) (x : Int) : stepN bs N (l ++ [x]) = withL (stepN bs N l) (suB bs x) := by
  unfold stepN; rw [List.foldl_append]; rfl
theorem testBit_stepN (bs : List Blk) {j : Nat} (hj : j < 1024) (l : List Int) : ∀ N : Nat, (stepN bs N l).testBit j = true ↔ N.testBit j = true ∨ ∃ b ∈ l, (j : Int) ∈ suB bs b := by
  induction l with
  | nil => intro N; simp [stepN]
  | cons x l ih =>
    intro N
    show (stepN bs (withL N (suB bs x)) l).testBit j = true ↔ _
    rw [ih, testBit_withL _ hj, Bool.or_eq_true, List.contains_iff_mem]
    constructor
    · rintro ((h | h) | ⟨b, h1, h2⟩)
      · exact .inl h
      · exact .inr ⟨x, List.mem_cons_self .., h⟩
      · exact .inr ⟨b, List.mem_cons_of_mem _ h1, h2⟩
    · rintro (h | ⟨b, h1, h2⟩)
      · exact .inl (.inl h)
      · rcases List.mem_cons.1 h1 with rfl | h1
        · exact .inl (.inr h2)
        · exact .inr ⟨b, h1, h2⟩

/-- The first k numbers. -/
def FirstN (N k : Nat) : Prop := Sm N ∧ ∀ j, j < 1024 → N.testBit j = decide (j < k)
theorem FirstN.zero : FirstN 0 0 := ⟨sm_zero, fun j _ => by simp⟩
theorem FirstN.succ {N k : Nat} (h : FirstN N k) : FirstN (withL N [(k : Int)]) (k + 1) :=
  ⟨withL_sm _ h.1, fun j hj => by
    rw [testBit_withL _ hj, h.2 j hj, Bool.eq_iff_iff]
    simp
    omega⟩

/-- The blocks that may be gone through. -/
structure OpenN (bs : List Blk) (nt : List Int) (O : Nat) : Prop where
  sm : Sm O
  has : ∀ j, j < 1024 → (O.testBit j = true ↔ j < bs.length ∧ (j : Int) ∉ nt)
theorem OpenN.of_first {bs : List Blk} {nt : List Int} {N : Nat} (h : FirstN N bs.length) : OpenN bs nt (outL N nt) :=
  ⟨outL_sm _ h.1, fun j hj => by rw [testBit_outL _ hj, h.2 j hj]; simp⟩

/-- What is known of what has been reached. -/
structure Part (bs : List Blk) (frm nt : List Int) (O N : Nat) : Prop where
  sm : Sm N
  sub : ∀ j, N.testBit j = true → j < 1024 ∧ O.testBit j = true ∧ Rt (suB bs) bs.length frm nt (j : Int)
  base : ∀ j, j < bs.length → (j : Int) ∈ frm → (j : Int) ∉ nt → N.testBit j = true

theorem sm_lt {N j : Nat} (h : Sm N) (hj : N.testBit j = true) : j < 1024 := by
  by_cases h2 : j < 1024
  · exact h2
  · rw [h j (by omega)] at hj; cases hj

theorem Part.start {bs : List Blk} (hc : Cl bs) {frm nt : List Int} {O : Nat} (hO : OpenN bs nt O) : Part bs frm nt O (O &&& withL 0 frm) := by
  refine ⟨and_sm _ hO.sm, fun j hj => ?_, fun j h1 h2 h3 => ?_⟩
  · have hl := sm_lt (and_sm _ hO.sm) hj
    rw [Nat.testBit_and, Bool.and_eq_true, testBit_withL _ hl, Nat.zero_testBit, Bool.false_or, List.contains_iff_mem] at hj
    obtain ⟨a, b⟩ := (hO.has j hl).1 hj.1
    exact ⟨hl, hj.1, .base hj.2 b (by omega) (by omega)⟩
  · have hle := hc.le
    rw [Nat.testBit_and, (hO.has j (by omega)).2 ⟨h1, h3⟩, testBit_withL _ (by omega), List.contains_iff_mem.2 h2]
    simp
theorem Part.next {bs : List Blk} (hc : Cl bs) {frm nt : List Int} {O N : Nat} (hO : OpenN bs nt O) (h : Part bs frm nt O N) : Part bs frm nt O (stepN bs N (upTo N 1024) &&& O) := by
  have hsm := and_sm O (stepN_sm bs (upTo N 1024) h.sm)
  refine ⟨hsm, fun j hj => ?_, fun j h1 h2 h3 => ?_⟩
  · have hl := sm_lt hsm hj
    rw [Nat.testBit_and, Bool.and_eq_true, testBit_stepN bs hl] at hj
    refine ⟨hl, hj.2, ?_⟩
    rcases hj.1 with h1 | ⟨b, hb, hjb⟩
    · exact (h.sub j h1).2.2
    · obtain ⟨i, _, hi2, rfl⟩ := (mem_upTo N 1024 b).1 hb
      exact (h.sub i hi2).2.2.step hjb ((hO.has j hl).1 hj.2).2
  · have hle := hc.le
    rw [Nat.testBit_and, (testBit_stepN bs (by omega) _ _).2 (.inl (h.base j h1 h2 h3)), (hO.has j (by omega)).2 ⟨h1, h3⟩]; rfl
theorem Part.fix {bs : List Blk} (hc : Cl bs) {frm nt : List Int} {O N : Nat} (hO : OpenN bs nt O) (h : Part bs frm nt O N) (hf : stepN bs N (upTo N 1024) &&& O = N) : RSet bs frm nt N := by
  refine ⟨h.sm, fun j => ⟨fun hj => (h.sub j hj).2.2, fun hj => ?_⟩⟩
  have hle := hc.le
  have key : ∀ x : Int, Rt (suB bs) bs.length frm nt x → okB bs x ∧ N.testBit x.toNat = true := by
    intro x hx
    induction hx with
    | @base x h1 h2 h3 h4 =>
      have hx : ((x.toNat : Nat) : Int) = x := by omega
      exact ⟨⟨h3, h4⟩, h.base x.toNat (by omega) (by rw [hx]; exact h1) (by rw [hx]; exact h2)⟩
    | @step x y _ hy hn ih =>
      obtain ⟨ok, hN⟩ := ih
      have oky := hc.go x ok y hy
      obtain ⟨y0, y1⟩ := oky
      obtain ⟨x0, x1⟩ := ok
      refine ⟨⟨y0, y1⟩, ?_⟩
      have hyy : ((y.toNat : Nat) : Int) = y := by omega
      rw [← hf, Nat.testBit_and, (hO.has y.toNat (by omega)).2 ⟨by omega, by rw [hyy]; exact hn⟩, Bool.and_true, testBit_stepN bs (by omega)]
      refine .inr ⟨x, (mem_upTo N 1024 x).2 ⟨x.toNat, by omega, hN, by omega⟩, ?_⟩
      rw [hyy]; exact hy
  have := (key _ hj).2
  simpa using this
theorem Part.grows {bs : List Blk} {frm nt : List Int} {O N : Nat} (h : Part bs frm nt O N) (hne : ¬ stepN bs N (upTo N 1024) &&& O = N) : cntG N 1024 < cntG (stepN bs N (upTo N 1024) &&& O) 1024 := by
  have hsub : ∀ j, N.testBit j = true → (stepN bs N (upTo N 1024) &&& O).testBit j = true := fun j hj => by
    obtain ⟨hl, ho, _⟩ := h.sub j hj
    rw [Nat.testBit_and, ho, (testBit_stepN bs hl _ _).2 (.inl hj)]; rfl
  have hex : ∃ j, j < 1024 ∧ N.testBit j = false ∧ (stepN bs N (upTo N 1024) &&& O).testBit j = true := by
    refine Classical.byContradiction fun hno => hne ?_
    refine set_ext (and_sm O (stepN_sm bs _ h.sm)) h.sm fun n hn => ?_
    cases hN : N.testBit n
    · cases hq : (stepN bs N (upTo N 1024) &&& O).testBit n
      · rfl
      · exact absurd ⟨n, hn, hN, hq⟩ hno
    · exact hsub n hN
  generalize stepN bs N (upTo N 1024) &&& O = M at *
  obtain ⟨j, hj, h1, h2⟩ := hex
  have gen : ∀ n, cntG N n + (if j < n then 1 else 0) ≤ cntG M n := by
    intro n
    induction n with
    | zero => simp [cntG]
    | succ n ih =>
      rw [cntG_succ, cntG_succ]
      by_cases hjn : j = n
      · subst hjn
        rw [h1, h2]
        rw [if_neg (Nat.lt_irrefl _)] at ih
        rw [if_pos (Nat.lt_succ_self _)]
        simp; omega
      · have : (if j < n + 1 then 1 else 0) = (if j < n then 1 else 0 : Nat) := by
          by_cases q : j < n
          · rw [if_pos q, if_pos (by omega)]
          · rw [if_neg q, if_neg (by omega)]
        rw [this]
        cases hN : N.testBit n
        · simp; omega
        · rw [hsub n hN]; simp; omega
  have := gen 1024
  rw [if_pos hj] at this
  omega

/-- How much may still come, read off the world. -/
noncomputable def leftOf (p : Value) (w : World) : Nat :=
  open Classical in
  match p with
  | .pointer (some a) => if h : ∃ N, Sm N ∧ w.heap[a.block]? = some (.cells (setA N) 70 (0, 0)) then 1024 - cntG (Classical.choose h) 1024 else 0
  | _ => 0
theorem leftOf_eq {w : World} {g N : Nat} (hN : Sm N) (h : w.heap[g]? = some (.cells (setA N) 70 (0, 0))) : leftOf (.pointer (some ⟨g, 0, none⟩)) w = 1024 - cntG N 1024 := by
  have hex : ∃ M, Sm M ∧ w.heap[g]? = some (.cells (setA M) 70 (0, 0)) := ⟨N, hN, h⟩
  have hs := Classical.choose_spec hex
  have : Classical.choose hex = N := by
    have h2 := h.symm.trans hs.2
    injection h2 with h2
    injection h2 with h2
    exact (setA_inj hN hs.1 h2).symm
  simp only [leftOf]
  rw [dif_pos hex, this]

set_option maxRecDepth 100000 in
set_option maxHeartbeats 2000000 in
theorem Reached_no (P : Value) (A B C : Option Addr) (c cb cc : Nat) (bs : List Blk) (frm nt : List Int) (w : World) (hr : RF w A bs) (hcl : closedB bs = false) :
    Calls Tryz.prog 23 #[.agg #[P, .slice A bs.length c], .slice B frm.length cb, .slice C nt.length cc] w (Fresh w (.slice none 0 0)) := by
  have hb0 := (Below.refl w.heap.size w).alloc (Nat.le_refl _) (.cells #[P, .slice A bs.length c] 25)
  have hs := blk_new w (.cells #[P, .slice A bs.length c] 25)
  have q := fun W hW => Closed_any P A c bs W (hr.below (w' := W) hW)
  rw [hcl] at q
  go_enter Tryz.func23, Tryz.ntmps23
  go_wp2_with (refine wpList_load_row rfl _ _ rfl _ rfl _ _ _ _ hs Tryz.underlying25 rfl (by kernel_rfl) ?_)
  refine (q _ hb0).mono ?_
  rintro e W1 ⟨rfl, hb1⟩
  go_wp2
  go_ret
  exact ⟨rfl, hb0.trans (hb1.mono hb0.size)⟩

/-- The answer of Reached. -/
def ReachedIs (w : World) (bs : List Blk) (frm nt : List Int) (e : Ending) (w' : World) : Prop := ∃ R, RSet bs frm nt R ∧ FreshInts w (upTo R 1024) e w'

set_option maxRecDepth 100000 in
set_option maxHeartbeats 4000000 in
theorem Reached_yes (P : Value) (A B C : Option Addr) (c cb cc : Nat) (bs : List Blk) (frm nt : List Int) (w : World) (hT : Tab w) (hr : RF w A bs) (hf : RI w B frm) (hn : RI w C nt) (hcl : closedB bs = true) :
    Calls Tryz.prog 23 #[.agg #[P, .slice A bs.length c], .slice B frm.length cb, .slice C nt.length cc] w (ReachedIs w bs frm nt) := by
  have hc := closed_cl hr.ok hcl
  have hle := hc.le
  have hb0 := (Below.refl w.heap.size w).alloc (Nat.le_refl _) (.cells #[P, .slice A bs.length c] 25)
  have hs := blk_new w (.cells #[P, .slice A bs.length c] 25)
  have q := fun W hW => Closed_any P A c bs W (hr.below (w' := W) hW)
  rw [hcl] at q
  go_enter Tryz.func23, Tryz.ntmps23
  go_wp2_with (refine wpList_load_row rfl _ _ rfl _ rfl _ _ _ _ hs Tryz.underlying25 rfl (by kernel_rfl) ?_)
  refine (q _ hb0).mono ?_
  rintro e W1 ⟨rfl, hb1⟩
  have hb2 := hb0.trans (hb1.mono hb0.size)
  have hs1 := blk_below hb1 hs (blk_lt hs)
  have hwlt := blk_lt hs1
  have hZ := blk_new W1 (.cells (setA 0) 70)
  have hBz := hb2.alloc hb2.size (.cells (setA 0) 70)
  have hsz := (blk_old W1 (.cells (setA 0) 70) (blk_lt hs1)).trans hs1
  have c1 := (cell_of_row _ _ 1 _ _ _ hsz).trans (show #[P, .slice A bs.length c][1]? = some (.slice A bs.length c) from rfl)
  rw [setA_zero] at hZ hBz hsz c1
  go_wp2_with fail
  rw [← setA_zero] at *
  clear c1 q hb0 hb1 hb2 hs hs1
  go_loopw [20] (fun i wr => ∃ k N : Nat, k ≤ bs.length ∧ i = .int .i64 k ∧ FirstN N k ∧ wr.heap[W1.heap.size]? = some (.cells (setA N) 70 (0, 0)) ∧ wr.heap[w.heap.size]? = some (.cells #[P, .slice A bs.length c] 25 (0, 0)) ∧ Below w.heap.size w wr) (fun i _ => bs.length - (intOf i).toNat)
  case atStart => exact ⟨0, 0, Nat.zero_le _, rfl, FirstN.zero, hZ, hsz, hBz⟩
  case round =>
    obtain ⟨k, N, hk, rfl, hN, hg, hfb, hB⟩ := hrel
    clear hZ hsz hBz
    by_cases hkl : k < bs.length
    · have hd : decide ((k : Int) < (bs.length : Int)) = true := decide_eq_true (by omega)
      have hN2 := hN.succ
      go_wp2_with (refine wpList_load_row rfl _ _ rfl _ rfl _ _ _ _ hg Tryz.underlying70 rfl (szSetA _) ?_)
      have hrd : RI (wr.alloc (.cells #[.int .i64 (k : Int)] 3)) (some ⟨wr.heap.size, 0, none⟩) [(k : Int)] := RI_lit (blk_new wr _) (by intro x hx; simp at hx; subst hx; exact ⟨by omega, by omega⟩) (by simp)
      refine (With_any N _ 1 [(k : Int)] _ hrd).mono ?_
      rintro e W3 ⟨rfl, hb3⟩
      have hbA := (Below.refl wr.heap.size wr).alloc (Nat.le_refl _) (.cells #[.int .i64 (k : Int)] 3)
      have hb4 := hbA.trans (hb3.mono hbA.size)
      have hg3 := blk_below hb4 hg (blk_lt hg)
      have hf3 := blk_below hb4 hfb (blk_lt hfb)
      have hB3 := hB.trans (hb4.mono hB.size)
      have hg4 := blk_setRow hg3 (cs' := setA (withL N [(k : Int)]))
      have hf4 := (blk_setRow_far (cs' := setA (withL N [(k : Int)])) (show w.heap.size ≠ W1.heap.size by omega)).trans hf3
      have hB4 := below_setRow hB3 (g := W1.heap.size) (by omega) (setA (withL N [(k : Int)]))
      clear hb3 hbA hb4 hf3 hB3 hrd hN
      go_wp2_with (refine wpList_store_row rfl _ _ _ rfl _ _ rfl rfl _ _ hg3 (szSetA _) (by rw [setA_size]; rfl) (oneCell_setA _) ?_)
      go_roundw
      case rel => exact ⟨k + 1, _, by omega, by go_num, hN2, hg4, hf4, hB4⟩
      case measure => simp [intOf]; omega
    · obtain rfl : k = bs.length := by omega
      have hd : decide ((bs.length : Int) < (bs.length : Int)) = false := by simp
      have hO := OpenN.of_first (nt := nt) hN
      have hnr := hn.below hB
      have hfr := hf.below hB
      go_wp2_with (refine wpList_load_row rfl _ _ rfl _ rfl _ _ _ _ hg Tryz.underlying70 rfl (szSetA _) ?_)
      refine (Without_any N C cc nt wr hnr).mono ?_
      rintro e W3 ⟨rfl, hb3⟩
      have hf3 := blk_below hb3 hfb (blk_lt hfb)
      have hB3 := hB.trans (hb3.mono hB.size)
      have h9 := blk_new W3 (.cells (setA 0) 70)
      have hfr3 := hfr.below hb3
      clear hg hfb hN hnr
      rw [setA_zero] at h9
      generalize outL N nt = O at *
      go_wp2_with (refine wpList_store_row rfl _ _ _ rfl _ _ rfl rfl _ _ h9 (szSetA _) (by rw [setA_size]; rfl) (oneCell_setA _) ?_)
      have hB4 := below_setRow (hB3.alloc hB3.size (.cells (setA 0) 70)) hB3.size (setA O)
      have hf4 := (blk_setRow_far (cs' := setA O) (show w.heap.size ≠ W3.heap.size by have := blk_lt hf3; omega)).trans ((blk_old W3 (.cells (setA 0) 70) (blk_lt hf3)).trans hf3)
      have hO4 := blk_setRow (blk_new W3 (.cells (setA 0) 70)) (cs' := setA O)
      have hfr4 := hfr3.below (below_setRow ((Below.refl W3.heap.size W3).alloc (Nat.le_refl _) (.cells (setA 0) 70)) (Nat.le_refl _) (setA O))
      have hw3 : w.heap.size < W3.heap.size := blk_lt hf3
      clear hf3 hB3 h9 hfr3 hb3 hfr hB
      rw [← setA_zero]
      generalize ((W3.alloc (.cells (setA 0) 70)).setRow W3.heap.size (setA O)) = W4 at *
      generalize W3.heap.size = g9 at *
      change Code.wp _ _ _ (Act.mk _ _) _
      refine wp_region_tree_tail (S := fun W => ∃ p : Regrown, W = Sort.grow (redrawn W4 p.d) p.os) (.look [0, 1] (.two 2 (.two 3 (.one 4 .done) 4 (.one 3 .done)) 4 (.one 2 (.one 3 .done)))) (by kernel_rfl) (by kernel_rfl) (regrown_of_below ((Below.refl W4.heap.size W4).drew)) (fun d _ _ _ _ h => by cases d <;> exact h) ?_
      refine tree_look ?_
      dsimp only [pickL, nthO]
      repeat (first
        | go_big_quiet_skip
        | (go_big_quiet_want; first
            | (go_big_quiet_op; go_big_quiet_on)
            | (refine q_go ⟨_, ⟨0, #[]⟩, rfl⟩ (fun K' hk => q_load _ _ rfl _ rfl _ _ _ _ (fun W hW => blk_below (below_of_grow hW) hO4 (blk_lt hO4)) Tryz.underlying70 rfl (szSetA _) hk) ?_; go_big_quiet_op; go_big_quiet_on)))
      refine wpQuiet_nil ?_
      have hdr : Below W4.heap.size W4 W4.drew := (Below.refl _ _).drew
      refine tree_two rfl rfl ?w1 ?w2
      case' w1 =>
        go_wp2_with fail
        refine (Of_any B cb frm _ (hfr4.below hdr)).mono ?_
        rintro e W5 ⟨rfl, hb5⟩
        have hb5' := hdr.trans hb5
        go_wp2
        refine ⟨regrown_of_below hb5', ?_⟩
        refine tree_two rfl rfl ?w3 ?w4
        case' w3 =>
          go_wp2_with fail
          refine (And_any _ _ _).mono ?_
          rintro e W6 ⟨rfl, hb6⟩
          have hb6' := hb5'.trans (hb6.mono hb5'.size)
          go_wp2
          refine ⟨regrown_of_below hb6', ?_⟩
          refine tree_one rfl ?_
          go_wp2
          refine ⟨regrown_of_below (hb6'.alloc hb6'.size _), ?_⟩
          refine tree_done ?_
          simp only [MT.deep, List.length_cons, List.length_nil, Nat.reduceAdd, List.drop_succ_cons, List.drop_zero]
          have hb7 := below_setRow (hb6'.alloc hb6'.size (.cells (setA 0) 70)) hb6'.size (setA (O &&& withL 0 frm))
          have h10 := blk_new W6 (.cells (setA 0) 70)
          have h10' := blk_setRow h10 (cs' := setA (O &&& withL 0 frm))
          have hgl : W4.heap.size ≤ W6.heap.size := hb6'.size
          rw [setA_zero] at h10
          go_wp2_with (refine wpList_store_row rfl _ _ _ rfl _ _ rfl rfl _ _ h10 (szSetA _) (by rw [setA_size]; rfl) (oneCell_setA _) ?_)
          rw [← setA_zero]
          have hgl0 : g9 < W6.heap.size := by have := blk_lt hO4; omega
          clear hb5 hb5' hb6 hb6' h10 hdr hgl
          generalize (W6.alloc (.cells (setA 0) 70)).setRow W6.heap.size (setA (O &&& withL 0 frm)) = W7 at *
          generalize W6.heap.size = g10 at *
          clear W6 W5
        case' w4 =>
          go_wp2
          have h10 := blk_new W5 (.cells (setA 0) 70)
          have hba := hb5'.alloc hb5'.size (.cells (setA 0) 70)
          rw [setA_zero] at h10 hba
          refine ⟨regrown_of_below hba, ?_⟩
          refine tree_one rfl ?_
          go_wp2_with fail
          refine (And_any _ _ _).mono ?_
          rintro e W6 ⟨rfl, hb6⟩
          have hb6' := hba.trans (hb6.mono hba.size)
          go_wp2
          refine ⟨regrown_of_below hb6', ?_⟩
          refine tree_done ?_
          simp only [MT.deep, List.length_cons, List.length_nil, Nat.reduceAdd, List.drop_succ_cons, List.drop_zero]
          have h11 := blk_below hb6 h10 (by simp)
          have h10' := blk_setRow h11 (cs' := setA (O &&& withL 0 frm))
          have hb7 := below_setRow hb6' hb5'.size (setA (O &&& withL 0 frm))
          have hgl : W4.heap.size ≤ W5.heap.size := hb5'.size
          go_wp2_with (refine wpList_store_row rfl _ _ _ rfl _ _ rfl rfl _ _ h11 (szSetA _) (by rw [setA_size]; rfl) (oneCell_setA _) ?_)
          have hgl0 : g9 < W5.heap.size := by have := blk_lt hO4; omega
          clear hb5 hb5' hb6 hb6' h10 h11 hba hdr hgl
          generalize W6.setRow W5.heap.size (setA (O &&& withL 0 frm)) = W7 at *
          generalize W5.heap.size = g10 at *
          clear W6 W5
      case' w2 =>
        go_wp2
        have h10 := blk_new W4.drew (.cells (setA 0) 70)
        have hba := hdr.alloc hdr.size (.cells (setA 0) 70)
        rw [setA_zero] at h10 hba
        refine ⟨regrown_of_below hba, ?_⟩
        refine tree_one rfl ?_
        go_wp2_with fail
        refine (Of_any B cb frm _ (hfr4.below hba)).mono ?_
        rintro e W5 ⟨rfl, hb5⟩
        have hb5' := hba.trans (hb5.mono hba.size)
        go_wp2
        refine ⟨regrown_of_below hb5', ?_⟩
        refine tree_one rfl ?_
        go_wp2_with fail
        refine (And_any _ _ _).mono ?_
        rintro e W6 ⟨rfl, hb6⟩
        have hb6' := hb5'.trans (hb6.mono hb5'.size)
        go_wp2
        refine ⟨regrown_of_below hb6', ?_⟩
        refine tree_done ?_
        simp only [MT.deep, List.length_cons, List.length_nil, Nat.reduceAdd, List.drop_succ_cons, List.drop_zero]
        have h11 := blk_below hb6 (blk_below hb5 h10 (blk_lt h10)) (Nat.lt_of_lt_of_le (blk_lt h10) hb5.size)
        have h10' : (W6.setRow W4.heap.size (setA (O &&& withL 0 frm))).heap[W4.heap.size]? = some (.cells (setA (O &&& withL 0 frm)) 70 (0, 0)) := blk_setRow h11
        have hb7 := below_setRow hb6' (g := W4.heap.size) (Nat.le_refl _) (setA (O &&& withL 0 frm))
        have hgl : W4.heap.size ≤ W4.heap.size := Nat.le_refl _
        go_wp2_with (refine wpList_store_row rfl _ _ _ rfl _ _ rfl rfl _ _ h11 (szSetA _) (by rw [setA_size]; rfl) (oneCell_setA _) ?_)
        have hgl0 : g9 < W4.heap.size := by have := blk_lt hO4; omega
        clear hb5 hb5' hb6 hb6' h10 h11 hba hdr hgl
        generalize W6.setRow W4.heap.size (setA (O &&& withL 0 frm)) = W7 at *
        obtain ⟨g10, hg10⟩ : ∃ g, W4.heap.size = g := ⟨_, rfl⟩
        rw [hg10] at h10' hgl0 ⊢
        clear hg10
      all_goals
        have hB7 := hB4.trans (hb7.mono hB4.size)
        have hO7 := blk_below hb7 hO4 (blk_lt hO4)
        have hf7 := blk_below hb7 hf4 (blk_lt hf4)
        have hP := Part.start hc (frm := frm) hO
        clear hb7 hB4 hf4 hO4 hfr4
        generalize O &&& withL 0 frm = M0 at *
        change Code.wp _ _ _ (Act.mk _ _) _
        go_loopw [10] (fun p wr => ∃ ab M : Nat, p = .pointer (some ⟨ab, 0, none⟩) ∧ Part bs frm nt O M ∧ wr.heap[ab]? = some (.cells (setA M) 70 (0, 0)) ∧ wr.heap[g9]? = some (.cells (setA O) 70 (0, 0)) ∧
          wr.heap[w.heap.size]? = some (.cells #[P, .slice A bs.length c] 25 (0, 0)) ∧ g9 < ab ∧ Below w.heap.size w wr) (fun p wr => leftOf p wr)
        case atStart => exact ⟨g10, M0, rfl, hP, h10', hO7, hf7, hgl0, hB7⟩
        case round =>
          clear h10' hO7 hf7 hgl0 hB7 hP
          obtain ⟨ab, M, rfl, hPm, hab, h9, hfb, hablt, hB⟩ := hrel
          have hleft := leftOf_eq hPm.sm hab
          have hz := blk_new wr (.cells (setA 0) 70)
          have hz8 := blk_setRow hz (cs' := setA M)
          have hB8 := below_setRow ((Below.refl wr.heap.size wr).alloc (Nat.le_refl _) (.cells (setA 0) 70)) (Nat.le_refl _) (setA M)
          have hab8 := blk_below hB8 hab (blk_lt hab)
          have h98 := blk_below hB8 h9 (blk_lt h9)
          have hfb8 := blk_below hB8 hfb (blk_lt hfb)
          have hBB := hB.trans (hB8.mono hB.size)
          have hT8 := hT.below hBB
          have hne1 : ab ≠ wr.heap.size := by have := blk_lt hab; omega
          have hne2 : g9 ≠ wr.heap.size := by have := blk_lt h9; omega
          have hne5 : g9 ≠ ab := by omega
          have hne3 : w.heap.size ≠ wr.heap.size := by have := blk_lt hfb; omega
          have hwr : w.heap.size < wr.heap.size := blk_lt hfb
          rw [setA_zero] at hz hz8 hB8 hab8 h98 hfb8 hBB hT8
          go_wp2_with (first | (refine wpList_load_row rfl _ _ rfl _ rfl _ _ _ _ hab8 Tryz.underlying70 rfl (szSetA _) ?_) | (refine wpList_load_row rfl _ _ rfl _ rfl _ _ _ _ hab Tryz.underlying70 rfl (szSetA _) ?_) | (refine wpList_store_row rfl _ _ _ rfl _ _ rfl rfl _ _ hz (szSetA _) (by rw [setA_size]; rfl) (oneCell_setA _) ?_))
          refine (List_any M _ hT8).mono ?_
          rintro e W9 ⟨v, rfl, ho, hnl, hb9⟩
          obtain ⟨Lv, lc, rfl⟩ := own_form ho
          have hz9 := blk_below hb9 hz8 (blk_lt hz8)
          have hab9 := blk_below hb9 hab8 (blk_lt hab8)
          have h99 := blk_below hb9 h98 (blk_lt h98)
          have hfb9 := blk_below hb9 hfb8 (blk_lt hfb8)
          have hB9 := hBB.trans (hb9.mono hBB.size)
          obtain ⟨b0, hb0, ho9⟩ : ∃ b0, wr.heap.size < b0 ∧ W9.ownsRow b0 3 1 (.slice Lv (upTo M 1024).length lc) (upTo M 1024).length ((upTo M 1024).map (Value.int .i64)) := ⟨_, by simp, ho⟩
          clear ho hb9 hz8 hab8 h98 hfb8 hBB hT8 hz hB8 hab h9 hfb hB
          have hLl := upTo_len M 1024
          have hL64 := upTo_i64 (N := M) (Nat.le_refl 1024)
          have hLm : ∀ x ∈ upTo M 1024, okB bs x := fun x hx => by
            obtain ⟨j, _, hj, rfl⟩ := (mem_upTo M 1024 x).1 hx
            obtain ⟨hj1, hj2, _⟩ := hPm.sub j hj
            have := (hO.has j hj1).1 hj2
            exact ⟨by omega, by omega⟩
          obtain ⟨L, hL⟩ : ∃ L, upTo M 1024 = L := ⟨_, rfl⟩
          rw [hL] at ho9 hLl hL64 hLm ⊢
          have hL' := Lib.hid hL
          clear hL hnl
          go_wp2
          obtain ⟨wo, rfl⟩ : ∃ wo : World, wo = wr := ⟨_, rfl⟩
          go_loopw [39] (fun i wq => ∃ m : Nat, m ≤ L.length ∧ i = .int .i64 m ∧ wq.heap[wo.heap.size]? = some (.cells (setA (stepN bs M (L.take m))) 70 (0, 0)) ∧ wq.heap[ab]? = some (.cells (setA M) 70 (0, 0)) ∧ wq.heap[g9]? = some (.cells (setA O) 70 (0, 0)) ∧
            wq.heap[w.heap.size]? = some (.cells #[P, .slice A bs.length c] 25 (0, 0)) ∧ Below w.heap.size w wq ∧ wq.ownsRow b0 3 1 (.slice Lv L.length lc) L.length (L.map (Value.int .i64))) (fun i _ => L.length - (intOf i).toNat)
          case atStart => exact ⟨0, Nat.zero_le _, rfl, hz9, hab9, h99, hfb9, hB9, ho9⟩
          case round =>
            clear hz9 hab9 h99 hfb9 hB9 ho9
            obtain ⟨m, hm, rfl, hz9, hab9, h99, hfb9, hB9, ho9⟩ := hrel
            by_cases hml : m < L.length
            · have hd2 : decide ((m : Int) < (L.length : Int)) = true := decide_eq_true (by omega)
              obtain ⟨A', c', e', _, hRI⟩ := own_RI ho9 hL64 (by omega)
              cases e'
              obtain ⟨bL, oL, rfl, hbL, hcL, hxL⟩ := hRI.at_ hml
              obtain ⟨k2, hk2, hk2l⟩ : ∃ k2 : Nat, gI L m = (k2 : Int) ∧ k2 < bs.length := by
                obtain ⟨h1, h2⟩ := hLm _ (gI_mem hml)
                exact ⟨(gI L m).toNat, by omega, by omega⟩
              rw [hk2] at hcL
              have hstep : stepN bs M (L.take (m + 1)) = withL (stepN bs M (L.take m)) (toL (gB bs k2).t) := by
                rw [List.take_succ_eq_append_getElem hml, stepN_snoc, ← gI_eq hml, hk2, suB_of (bs := bs) (x := (k2 : Int)) ⟨by omega, by omega⟩]
                rfl
              have hstep' := Lib.hid hstep
              have hk2' := Lib.hid hk2
              clear hk2 hstep
              obtain ⟨b, off, hAe, hbl, hok, hcs⟩ := (hr.below hB9).term hk2l
              have hfc : ∀ W, Below wr.heap.size wr W → W.cell? ⟨w.heap.size, 1, none⟩ = some (.slice (some ⟨b, off, none⟩) bs.length c) := fun W hW => by
                rw [← hAe]; exact (cell_of_row _ _ 1 _ _ _ (blk_below hW hfb9 (blk_lt hfb9))).trans rfl
              have hd3 : decide ((k2 : Int) < (bs.length : Int)) = true := decide_eq_true (by omega)
              have hd4 : (0 : Int) ≤ (k2 : Int) := by omega
              clear hAe
              have hd5 : (k2 : Int) < (bs.length : Int) := by omega
              go_wp2
              refine wp_region_tree_tail (S := fun W => ∃ p : Regrown, W = Sort.grow (redrawn wr p.d) p.os) (.look [0, 1, 2, 3, 4, 5, 6] (.one 7 .done)) (by kernel_rfl) (by kernel_rfl) (regrown_of_below ((Below.refl wr.heap.size wr).drew)) (fun d _ _ _ _ h => by cases d <;> exact h) ?_
              refine tree_look ?_
              dsimp only [pickL, nthO]
              repeat (first
                | go_big_quiet_skip
                | (go_big_quiet_want; first
                    | (go_big_quiet_op; go_big_quiet_on)
                    | ((first
                        | refine q_go ⟨_, ⟨0, #[]⟩, rfl⟩ (fun K' hk => q_load _ _ rfl _ rfl _ _ _ _ (fun W hW => blk_below (below_of_grow hW) hz9 (blk_lt hz9)) Tryz.underlying70 rfl (szSetA _) hk) ?_
                        | refine q_go ⟨_, ⟨0, #[]⟩, rfl⟩ (fun K' hk => q_loadS _ _ rfl _ rfl _ Tryz.underlying23 _ (fun W hW => hfc W (below_of_grow hW)) hk) ?_
                        | refine q_go ⟨_, ⟨0, #[]⟩, rfl⟩ (fun K' hk => q_loadM _ _ rfl _ _ rfl (gB bs k2).t.val.toList _ (fun W hW => hcs W (below_of_grow hW)) Tryz.underlying47 rfl (by kernel_rfl) hk) ?_); go_big_quiet_op; go_big_quiet_on)))
              refine wpQuiet_nil ?_
              refine tree_one rfl ?_
              go_wp2_with fail
              have hdr : Below wr.heap.size wr wr.drew := (Below.refl _ _).drew
              refine (To_any _ _ hok).mono ?_
              rintro e W5 ⟨v5, rfl, ho5, hnl5, hb5⟩
              have hb5' := hdr.trans hb5
              obtain ⟨T5, tc5, rfl⟩ := own_form ho5
              obtain ⟨A5, c5, e5, _, hR5⟩ := own_RI ho5 (toL_i64 hok) (by have := toL_len (gB bs k2).t; omega)
              cases e5
              go_wp2
              refine ⟨regrown_of_below hb5', ?_⟩
              refine tree_done ?_
              simp only [MT.deep, List.length_cons, List.length_nil, Nat.reduceAdd, List.drop_succ_cons, List.drop_zero]
              go_wp2_with fail
              refine (With_any (stepN bs M (L.take m)) T5 tc5 _ _ hR5).mono ?_
              rintro e W6 ⟨rfl, hb6⟩
              have hb6' := hb5'.trans (hb6.mono hb5'.size)
              have hz6 := blk_below hb6' hz9 (blk_lt hz9)
              rw [← hstep'.out]
              have hz7 := blk_setRow hz6 (cs' := setA (stepN bs M (L.take (m + 1))))
              have n1 := blk_lt hz9
              have hab7 := (blk_setRow_far (cs' := setA (stepN bs M (L.take (m + 1)))) hne1).trans (blk_below hb6' hab9 (blk_lt hab9))
              have h97 := (blk_setRow_far (cs' := setA (stepN bs M (L.take (m + 1)))) hne2).trans (blk_below hb6' h99 (blk_lt h99))
              have hfb7 := (blk_setRow_far (cs' := setA (stepN bs M (L.take (m + 1)))) hne3).trans (blk_below hb6' hfb9 (blk_lt hfb9))
              have hB7 := below_setRow (hB9.trans (hb6'.mono hB9.size)) (g := wo.heap.size) (by omega) (setA (stepN bs M (L.take (m + 1))))
              have ho7 : (W6.setRow wo.heap.size (setA (stepN bs M (L.take (m + 1))))).ownsRow b0 3 1 (.slice (some ⟨bL, oL, none⟩) L.length lc) L.length (L.map (Value.int .i64)) := by
                refine ⟨ho9.1, ?_⟩
                rcases ho9.2 with h | ⟨g, cap, cur, e, hbg, hg, q⟩
                · exact .inl h
                · exact .inr ⟨g, cap, cur, e, hbg, (blk_setRow_far (by omega)).trans (blk_below hb6' hg (blk_lt hg)), q⟩
              clear hb6 hb5 hb5' hb6' hR5 ho5 hnl5 hdr hcs hfc
              go_wp2_with (refine wpList_store_row rfl _ _ _ rfl _ _ rfl rfl _ _ hz6 (szSetA _) (by rw [setA_size]; rfl) (oneCell_setA _) ?_)
              go_roundw
              case rel => exact ⟨m + 1, by omega, by go_num, hz7, hab7, h97, hfb7, hB7, ho7⟩
              case measure => simp [intOf]; omega
            · obtain rfl : m = L.length := by omega
              have hd2 : decide ((L.length : Int) < (L.length : Int)) = false := by simp
              rw [List.take_length] at hz9
              go_wp2_with (first | (refine wpList_load_row rfl _ _ rfl _ rfl _ _ _ _ hz9 Tryz.underlying70 rfl (szSetA _) ?_) | (refine wpList_load_row rfl _ _ rfl _ rfl _ _ _ _ h99 Tryz.underlying70 rfl (szSetA _) ?_))
              refine (And_any _ _ _).mono ?_
              rintro e W6 ⟨rfl, hb6⟩
              have hz6 := blk_below hb6 hz9 (blk_lt hz9)
              have hz7 := blk_setRow hz6 (cs' := setA (stepN bs M L &&& O))
              have n1 := blk_lt hz9
              have hab7 := (blk_setRow_far (cs' := setA (stepN bs M L &&& O)) hne1).trans (blk_below hb6 hab9 (blk_lt hab9))
              have h97 := (blk_setRow_far (cs' := setA (stepN bs M L &&& O)) hne2).trans (blk_below hb6 h99 (blk_lt h99))
              have hfb7 := (blk_setRow_far (cs' := setA (stepN bs M L &&& O)) hne3).trans (blk_below hb6 hfb9 (blk_lt hfb9))
              have hB7 := below_setRow (hB9.trans (hb6.mono hB9.size)) (g := wo.heap.size) (by omega) (setA (stepN bs M L &&& O))
              have hnext := hPm.next hc hO
              rw [hL'.out] at hnext
              have heg : ∀ W, (eqGuard .eql 70 (.tmp 56) (.tmp 57) (.agg (setA (stepN bs M L &&& O))) (.agg (setA M))).run Tryz.prog W = .ok () W := fun W => run_eqGuard_agg W _ _ _ _ _ _ (by kernel_rfl)
              have heq := fun W => run_eql_sets (P := Tryz.prog) W 70 68 (by kernel_rfl) (by kernel_rfl) szU64 hnext.sm hPm.sm
              clear hb6 hfb9 hab9 h99 hB9 ho9 hz9
              by_cases hfix : stepN bs M L &&& O = M
              · have hR := hPm.fix hc hO (by rw [hL'.out]; exact hfix)
                rw [decide_eq_true hfix] at heq
                clear hfix
                go_wp2_with (first | (refine wpList_load_row rfl _ _ rfl _ rfl _ _ _ _ hz7 Tryz.underlying70 rfl (szSetA _) ?_) | (refine wpList_load_row rfl _ _ rfl _ rfl _ _ _ _ hab7 Tryz.underlying70 rfl (szSetA _) ?_) | (refine wpList_store_row rfl _ _ _ rfl _ _ rfl rfl _ _ hz6 (szSetA _) (by rw [setA_size]; rfl) (oneCell_setA _) ?_))
                refine (List_any M _ (hT.below hB7)).mono ?_
                intro e W8 hf8
                obtain ⟨v8, rfl, h8⟩ := FreshInts.mono hB7 hf8
                go_wp2
                go_ret
                exact ⟨M, hR, v8, rfl, h8⟩
              · rw [decide_eq_false hfix] at heq
                have hgr := hPm.grows (by rw [hL'.out]; exact hfix)
                rw [hL'.out] at hgr
                have hc24 := cntG_le (stepN bs M L &&& O) 1024
                clear hfix
                generalize stepN bs M L &&& O = M2 at *
                have hne4 : w.heap.size ≠ ab := by omega
                have hab8 := blk_setRow hab7 (cs' := setA M2)
                have hfb8 := (blk_setRow_far (cs' := setA M2) hne4).trans hfb7
                have hB8 := below_setRow hB7 (g := ab) (by omega) (setA M2)
                have h98 : ((W6.setRow wo.heap.size (setA M2)).setRow ab (setA M2)).heap[g9]? = some (.cells (setA O) 70 (0, 0)) := (blk_setRow_far hne5).trans h97
                have hz11 := blk_new ((W6.setRow wo.heap.size (setA M2)).setRow ab (setA M2)) (.cells (setA 0) 70)
                have hB11 := below_setRow ((Below.refl ((W6.setRow wo.heap.size (setA M2)).setRow ab (setA M2)).heap.size ((W6.setRow wo.heap.size (setA M2)).setRow ab (setA M2))).alloc (Nat.le_refl _) (.cells (setA 0) 70)) (Nat.le_refl _) (setA M2)
                have hsz6 : ((W6.setRow wo.heap.size (setA M2)).setRow ab (setA M2)).heap.size = W6.heap.size := by simp
                have h912 := blk_below hB11 h98 (blk_lt h98)
                have hfb12 := blk_below hB11 hfb8 (blk_lt hfb8)
                have hB12 := hB8.trans (hB11.mono hB8.size)
                have hlt12 := blk_lt h98
                rw [hsz6] at hz11 hB12 h912 hfb12 hlt12
                have hz12 := blk_setRow hz11 (cs' := setA M2)
                have hleft2 := leftOf_eq hnext.sm hz12
                rw [setA_zero] at hz11 hz12 h912 hfb12 hB12 hleft2
                clear hB11 hsz6
                go_wp2_with (first | (refine wpList_load_row rfl _ _ rfl _ rfl _ _ _ _ hz7 Tryz.underlying70 rfl (szSetA _) ?_) | (refine wpList_load_row rfl _ _ rfl _ rfl _ _ _ _ hab8 Tryz.underlying70 rfl (szSetA _) ?_) | (refine wpList_load_row rfl _ _ rfl _ rfl _ _ _ _ hab7 Tryz.underlying70 rfl (szSetA _) ?_) | (refine wpList_store_row rfl _ _ _ rfl _ _ rfl rfl _ _ hz6 (szSetA _) (by rw [setA_size]; rfl) (oneCell_setA _) ?_) | (refine wpList_store_row rfl _ _ _ rfl _ _ rfl rfl _ _ hab7 (szSetA _) (by rw [setA_size]; rfl) (oneCell_setA _) ?_) | (refine wpList_store_row rfl _ _ _ rfl _ _ rfl rfl _ _ hz11 (szSetA _) (by rw [setA_size]; rfl) (oneCell_setA _) ?_))
                go_frame
                go_roundw
                case rel => exact ⟨_, M2, rfl, hnext, hz12, h912, hfb12, hlt12, hB12⟩
                case measure => exact Nat.lt_of_lt_of_eq (Nat.lt_of_le_of_lt (Nat.le_of_eq hleft2) (by omega)) hleft.symm

end Go.Proofs.YtjichaeegheacaaGreatDoor
