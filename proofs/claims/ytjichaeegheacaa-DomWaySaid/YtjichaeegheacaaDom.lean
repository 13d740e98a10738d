
/-
  Package dom: Of, Over, Both, of a function that is closed; who dominates whom.
-/
import Derived.Test.YtjichaeegheacaaMadeA
namespace Go.Proofs.Ytjichaeegheacaa
open Go Go.RowKit

/-- a dominates b: both are reached, b not without a. -/
def DomP (bs : List Blk) (a b : Int) : Prop := Way (suB bs) 0 b ∧ Way (suB bs) 0 a ∧ ¬ Rt (suB bs) bs.length [0] [a] b
theorem dom_law {bs : List Blk} (hc : Cl bs) {l : List Int} {T : PTree} (h : DomOk bs l T) (a b : Int) : a ∈ chI l T b ↔ DomP bs a b := by
  obtain ⟨h1, h2, h3, h4, h5⟩ := order_facts hc h.ord
  unfold chI DomP
  constructor
  · intro hm
    split at hm
    · rename_i hb
      obtain ⟨i, hi, e1, e2⟩ := mem_place hb
      rw [e2] at hm
      obtain ⟨d, hd, rfl⟩ := List.mem_map.1 hm
      have han := (mem_chT h.wf d i).1 hd
      have hdl : d < l.length := Nat.lt_of_le_of_lt (han.le h.wf) hi
      refine ⟨(h4 b).1 hb, (h4 _).1 (gI_mem hdl), fun q => ?_⟩
      rw [← e1, ← av_rt hc h.ord hdl hi] at q
      exact (h.an i d hi).1 han q
    · cases hm
  · rintro ⟨hb, ha, hn⟩
    have hbl := (h4 b).2 hb
    have hal := (h4 a).2 ha
    rw [if_pos hbl]
    obtain ⟨i, hi, e1, e2⟩ := mem_place hbl
    obtain ⟨d, hd, e3, _⟩ := mem_place hal
    rw [e2]
    refine List.mem_map.2 ⟨d, (mem_chT h.wf d i).2 ((h.an i d hi).2 fun q => hn ?_), e3⟩
    rw [av_rt hc h.ord hd hi, e3, e1] at q
    exact q

/-- Behind made: the tree, where it lies. -/
theorem Made.reads {w : World} {bs : List Blk} (hc : Cl bs) {e : Ending} {w' : World} (h : Made w bs e w') :
    ∃ (bu bp : Nat) (l : List Int) (T : PTree), e = .returned (.agg #[.slice (some ⟨bu, 0, none⟩) (uOf l bs.length T).length bs.length, .slice (some ⟨bp, 0, none⟩) (plF l bs.length l.length).length bs.length]) ∧
      RI w' (some ⟨bu, 0, none⟩) (uOf l bs.length T) ∧ RI w' (some ⟨bp, 0, none⟩) (plF l bs.length l.length) ∧ TreeOk l bs.length T (uOf l bs.length T) (plF l bs.length l.length) ∧ DomOk bs l T ∧ Below w.heap.size w w' ∧
      w'.ownsRow w.heap.size 3 1 (.slice (some ⟨bu, 0, none⟩) (uOf l bs.length T).length bs.length) (uOf l bs.length T).length ((uOf l bs.length T).map (Value.int .i64)) := by
  obtain ⟨bu, bp, l, T, he, hu, hp, hb1, hb2, _, hB, hD⟩ := h
  have hle := hc.le
  have hul := uOf_len l bs.length T
  have hpl := plF_len l bs.length l.length
  have hll : l.length ≤ 100000 := by
    obtain ⟨s, hs, e⟩ := hD.ord
    obtain ⟨h1, h2, h3, h4, h5⟩ := order_facts hc hD.ord
    have hsub : ∀ (n : Nat) (l : List Int), l.Nodup → (∀ x ∈ l, 0 ≤ x ∧ x < (n : Int)) → l.length ≤ n := by
      intro n
      induction n with
      | zero =>
        intro l _ hl
        cases l with
        | nil => simp
        | cons x l => have := hl x (by simp); omega
      | succ n ih =>
        intro l hn hl
        have h6 := ih (l.filter (fun x => !decide (x = (n : Int)))) (List.Pairwise.filter _ hn) (fun x hx => by
          rw [List.mem_filter] at hx
          have := hl x hx.1
          have h7 : ¬ x = (n : Int) := by simpa using hx.2
          omega)
        have h8 : l.length ≤ (l.filter (fun x => !decide (x = (n : Int)))).length + 1 := by
          clear ih h6 hl
          induction l with
          | nil => simp
          | cons x l ih =>
            rw [List.nodup_cons] at hn
            by_cases e : x = (n : Int)
            · subst e
              have : l.filter (fun x => !decide (x = (n : Int))) = l := List.filter_eq_self.2 fun y hy => by
                have : ¬ y = (n : Int) := fun q => hn.1 (q ▸ hy)
                simp [this]
              rw [List.filter_cons, this]
              simp
            · have := ih hn.2
              simp only [List.filter_cons, decide_eq_false e, Bool.not_false, if_true, List.length_cons]
              omega
        omega
    have := hsub bs.length l h1 h5
    omega
  refine ⟨bu, bp, l, T, by rw [hul, hpl]; exact he, RI_lit hu (uOf_i64 hc hD.ord hD.wf hD.tl) (by omega), RI_lit hp (plF_i64 _ _ _ hll) (by omega), treeOk_of hc hD.ord hD.wf hD.tl, hD, hB, by simp, .inr ⟨bu, bs.length, _, rfl, hb1, hu, by omega, by unfold maxLen; omega, by simp [hul], by rw [Nat.mul_one]; exact List.take_of_length_le (by simp)⟩⟩

set_option maxRecDepth 100000 in
set_option maxHeartbeats 1000000 in
theorem Over_any (P : Value) (A : Option Addr) (c : Nat) (bs : List Blk) (a b : Int) (hb : I64 b) (w : World) (hr : RF w A bs) (hcl : closedB bs = true) :
    Calls Try.prog 9 #[.agg #[P, .slice A bs.length c], .int .i64 a, .int .i64 b] w fun e w' => ∃ v, e = .returned (.bool v) ∧ (v = true ↔ DomP bs a b) ∧ Below w.heap.size w w' := by
  have hc := closed_cl hr.ok hcl
  have hb0 := (Below.refl w.heap.size w).alloc (Nat.le_refl _) (.cells #[P, .slice A bs.length c] 25)
  have hs := blk_new w (.cells #[P, .slice A bs.length c] 25)
  go_enter Try.func9, Try.ntmps9
  go_wp2_with (refine wpList_load_row rfl _ _ rfl _ rfl _ _ _ _ hs Try.underlying25 rfl (by kernel_rfl) ?_)
  refine (made_yes P A c bs _ (hr.below hb0) hcl).mono ?_
  intro e W1 hm
  obtain ⟨bu, bp, l, T, rfl, hu, hp, hT, hD, hB, _⟩ := hm.reads hc
  have hlaw := dom_law hc hD a b
  have hlaw' := Lib.hid hlaw
  clear hlaw
  go_wp2_with fail
  refine (over_any l bs.length T _ _ hT (some ⟨bu, 0, none⟩) (some ⟨bp, 0, none⟩) bs.length bs.length a b hb W1 hu hp).mono ?_
  rintro e W2 ⟨rfl, hb2⟩
  go_wp2
  go_ret
  exact ⟨_, rfl, by unfold overI; rw [decide_eq_true_iff]; exact hlaw'.out, hb0.trans ((hB.trans (hb2.mono hB.size)).mono hb0.size)⟩

theorem run_field_up (A : Option Addr) (n c : Nat) (V : Value) (W : World) : (Instr.field 57 (.agg #[.slice A n c, V]) 0).run Try.prog W = .ok (.slice A n c) W := by
  simp [Instr.field, run_underlying Try.underlying57, part, asAgg, isAgg, run_underlying Try.underlying22]

set_option maxRecDepth 100000 in
set_option maxHeartbeats 1000000 in
theorem DomOf_any (P : Value) (A : Option Addr) (c : Nat) (bs : List Blk) (w : World) (hr : RF w A bs) (hcl : closedB bs = true) :
    Calls Try.prog 15 #[.agg #[P, .slice A bs.length c]] w fun e w' => ∃ (bu : Nat) (l : List Int) (T : PTree), e = .returned (.slice (some ⟨bu, 0, none⟩) (uOf l bs.length T).length bs.length) ∧
      w'.ownsRow w.heap.size 3 1 (.slice (some ⟨bu, 0, none⟩) (uOf l bs.length T).length bs.length) (uOf l bs.length T).length ((uOf l bs.length T).map (Value.int .i64)) ∧ RI w' (some ⟨bu, 0, none⟩) (uOf l bs.length T) ∧
      TreeOk l bs.length T (uOf l bs.length T) (plF l bs.length l.length) ∧ DomOk bs l T ∧ Below w.heap.size w w' := by
  have hc := closed_cl hr.ok hcl
  have hb0 := (Below.refl w.heap.size w).alloc (Nat.le_refl _) (.cells #[P, .slice A bs.length c] 25)
  have hs := blk_new w (.cells #[P, .slice A bs.length c] 25)
  go_enter Try.func15, Try.ntmps15
  go_wp2_with (refine wpList_load_row rfl _ _ rfl _ rfl _ _ _ _ hs Try.underlying25 rfl (by kernel_rfl) ?_)
  refine (made_yes P A c bs _ (hr.below hb0) hcl).mono ?_
  intro e W1 hm
  obtain ⟨bu, bp, l, T, rfl, hu, hp, hT, hD, hB, ho⟩ := hm.reads hc
  go_wp2
  rw [run_field_up]
  go_wp2
  go_ret
  refine ⟨bu, l, T, rfl, ⟨ho.1, ?_⟩, hu, hT, hD, hb0.trans (hB.mono hb0.size)⟩
  rcases ho.2 with h | ⟨g, cap, cur, e1, e2, e3⟩
  · exact .inl h
  · exact .inr ⟨g, cap, cur, e1, Nat.le_trans hb0.size e2, e3⟩

end Go.Proofs.Ytjichaeegheacaa
