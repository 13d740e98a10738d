
/-
  Dominators over the places of an order: the graph by places, ways, the passes, the rows that hold a tree. Plain Lean: no walk.
-/
import Derived.Test.YtjichaeegheacaaMeet
import Derived.Test.YtjichaeegheacaaChain
namespace Go.Proofs.Ytjichaeegheacaa
open Go Go.RowKit

theorem Thr.par {su : Int → List Int} {l : List Int} {s s' : St} (h : Thr su l s s') : ∃ N, s'.L = N ++ s.L ∧ ∀ X x Y, N = X ++ x :: Y → x ∈ l ∨ ∃ u ∈ X, x ∈ su u := by
  induction h with
  | nil s => exact ⟨[], rfl, fun X x Y e => by have := congrArg List.length e; simp at this⟩
  | @skip b bs s s' hb _ ih =>
    obtain ⟨N, h1, h2⟩ := ih
    refine ⟨N, h1, fun X x Y e => ?_⟩
    rcases h2 X x Y e with h | h
    · exact .inl (List.mem_cons_of_mem _ h)
    · exact .inr h
  | @go b bs s s1 s' hb _ _ ih1 ih2 =>
    obtain ⟨N1, a1, a2⟩ := ih1
    obtain ⟨N2, c1, c2⟩ := ih2
    simp only at a1 c1
    refine ⟨N2 ++ b :: N1, by rw [c1, a1]; simp, fun X x Y e => ?_⟩
    rcases List.append_eq_append_iff.1 e with ⟨ds, rfl, e2⟩ | ⟨cs, rfl, e2⟩
    · cases ds with
      | nil =>
        simp only [List.nil_append, List.cons.injEq] at e2
        exact .inl (by rw [← e2.1]; exact List.mem_cons_self ..)
      | cons a ds =>
        simp only [List.cons_append, List.cons.injEq] at e2
        obtain ⟨rfl, e3⟩ := e2
        rcases a2 ds x Y e3 with h | ⟨u, hu, h⟩
        · exact .inr ⟨b, by simp, h⟩
        · exact .inr ⟨u, by simp [hu], h⟩
    · cases cs with
      | nil =>
        simp only [List.nil_append, List.cons.injEq] at e2
        exact .inl (by rw [e2.1]; exact List.mem_cons_self ..)
      | cons c cs =>
        simp only [List.cons_append, List.cons.injEq] at e2
        obtain ⟨rfl, e3⟩ := e2
        rcases c2 X x cs rfl with h | h
        · exact .inl (List.mem_cons_of_mem _ h)
        · exact .inr h

/-- The blocks from which edges come to one. -/
def predsTo (es : List Ed) (b : Int) : List Int := (es.filter fun e => decide (e.t = b)).map (·.f)
def plN (l : List Int) (x : Int) : Option Nat := if x ∈ l then some (placeI l x).toNat else none
/-- The same by places. -/
def prP (es : List Ed) (l : List Int) (i : Nat) : List Nat := (predsTo es (gI l i)).filterMap (plN l)

theorem plN_at {l : List Int} (hn : l.Nodup) {i : Nat} (h : i < l.length) : plN l (gI l i) = some i := by
  unfold plN
  rw [if_pos (gI_mem h), place_gI hn h]; rfl
theorem plN_some {l : List Int} {x : Int} {a : Nat} (h : plN l x = some a) : a < l.length ∧ gI l a = x := by
  unfold plN at h
  split at h
  · rename_i hx
    obtain ⟨i, h1, h2, h3⟩ := mem_place hx
    rw [h3] at h
    cases h
    exact ⟨h1, h2⟩
  · cases h
theorem mem_prP {es : List Ed} {l : List Int} (hn : l.Nodup) {i a : Nat} : a ∈ prP es l i ↔ a < l.length ∧ ∃ e ∈ es, e.f = gI l a ∧ e.t = gI l i := by
  unfold prP predsTo
  rw [List.mem_filterMap]
  constructor
  · rintro ⟨x, hx, ha⟩
    rw [List.mem_map] at hx
    obtain ⟨e, he, rfl⟩ := hx
    rw [List.mem_filter, decide_eq_true_iff] at he
    obtain ⟨h1, h2⟩ := plN_some ha
    exact ⟨h1, e, he.1, h2.symm, he.2⟩
  · rintro ⟨h1, e, he, h2, h3⟩
    refine ⟨gI l a, List.mem_map.2 ⟨e, List.mem_filter.2 ⟨he, decide_eq_true h3⟩, h2⟩, plN_at hn h1⟩

section
variable {bs : List Blk} (hc : Cl bs) {l : List Int} (ho : OrderIs bs l)
include hc ho
theorem order_facts : l.Nodup ∧ gI l 0 = 0 ∧ 0 < l.length ∧ (∀ x, x ∈ l ↔ Way (suB bs) 0 x) ∧ ∀ x ∈ l, okB bs x := by
  obtain ⟨s, hs, rfl⟩ := ho
  have h0 : okB bs 0 := ⟨by omega, by have := hc.pos; omega⟩
  obtain ⟨⟨Y, a1⟩, a2, a3, a4, a5⟩ := Thr.whole hc.go hc.inR h0 hs
  exact ⟨a2, by rw [a1]; rfl, by rw [a1]; simp, a3, a5⟩
theorem graphP : GraphP (prP (edgesOf bs) l) l.length := by
  obtain ⟨h1, h2, h3, h4, h5⟩ := order_facts hc ho
  refine ⟨fun i hi1 hi => ?_, fun i hi a ha => ((mem_prP h1).1 ha).1⟩
  obtain ⟨s, hs, e⟩ := ho
  obtain ⟨N, q1, q2⟩ := hs.par
  simp only [List.append_nil] at q1
  rw [e] at q1
  subst q1
  rcases q2 (l.take i) (gI l i) (l.drop (i + 1)) (by rw [gI_eq hi, List.getElem_cons_drop, List.take_append_drop]) with h | ⟨u, hu, h⟩
  · simp at h
    rw [← h2] at h
    have := gI_inj h1 hi h3 h
    omega
  · obtain ⟨a, ha, e⟩ := List.mem_iff_getElem.1 hu
    rw [List.getElem_take] at e
    have ha2 : a < i := by simp at ha; omega
    obtain ⟨ed, he, e1, e2⟩ := su_edge h
    refine ⟨a, (mem_prP h1).2 ⟨by omega, ed, he, ?_, e2⟩, ha2⟩
    rw [e1, gI_eq (by omega), e]
theorem av_rt {d : Nat} (hd : d < l.length) {i : Nat} (hi : i < l.length) : Av (prP (edgesOf bs) l) l.length d i ↔ Rt (suB bs) bs.length [0] [gI l d] (gI l i) := by
  obtain ⟨h1, h2, h3, h4, h5⟩ := order_facts hc ho
  constructor
  · intro h
    induction h with
    | zero h =>
      rw [h2]
      refine .base (by simp) ?_ (by omega) (by have := hc.pos; omega)
      intro q
      simp at q
      rw [← h2] at q
      exact h (gI_inj h1 h3 hd q)
    | @step a i hav hi2 ha hne ih =>
      obtain ⟨g1, e, he, g2, g3⟩ := (mem_prP h1).1 ha
      refine (ih g1).step (y := gI l i) ?_ ?_
      · have := (edge_su he).2
        rw [g2, g3] at this; exact this
      · intro q
        simp at q
        exact hne (gI_inj h1 hi hd q)
  · have gen : ∀ x, Rt (suB bs) bs.length [0] [gI l d] x → ∃ i, i < l.length ∧ gI l i = x ∧ Av (prP (edgesOf bs) l) l.length d i := by
      intro x hx
      induction hx with
      | @base x hx hn _ _ =>
        simp at hx
        subst hx
        refine ⟨0, h3, h2, .zero ?_⟩
        rintro rfl
        exact hn (by simp [h2])
      | @step x y hr hy hn ih =>
        obtain ⟨a, ha, rfl, hav⟩ := ih
        have hyl : y ∈ l := (h4 y).2 (((h4 _).1 (gI_mem ha)).step hy)
        obtain ⟨j, hj, rfl, _⟩ := mem_place hyl
        obtain ⟨e, he, e1, e2⟩ := su_edge hy
        refine ⟨j, hj, rfl, .step hav hj ((mem_prP h1).2 ⟨ha, e, he, e1, e2⟩) ?_⟩
        rintro rfl
        exact hn (by simp)
    intro h
    obtain ⟨j, hj, e, hav⟩ := gen _ h
    rw [gI_inj h1 hj hi e] at hav
    exact hav
end

/- The tree that a pass makes. -/
def mkT (P : Nat → List Nat) (T : PTree) : Nat → PTree
  | 0 => T
  | j + 1 => fun i => if i = j then (if j = 0 then none else overU (mkT P T j) (P j)) else mkT P T j i
def passN (P : Nat → List Nat) (m : Nat) (T : PTree) : PTree := fun i => if i < m then mkT P T (i + 1) i else none
theorem mkT_mix (P : Nat → List Nat) (m : Nat) (T : PTree) : ∀ j, j ≤ m → mkT P T j = mixT j (passN P m T) T := by
  intro j
  induction j with
  | zero => intro _; funext i; rw [mix_ge (Nat.zero_le _)]; rfl
  | succ j ih =>
    intro hj
    have h := ih (by omega)
    funext i
    by_cases e : i = j
    · subst e
      rw [mix_lt (by omega)]
      unfold passN
      rw [if_pos (by omega)]
    · have : mkT P T (j + 1) i = mkT P T j i := if_neg e
      rw [this, h]
      by_cases q : i < j
      · rw [mix_lt q, mix_lt (by omega)]
      · rw [mix_ge (by omega), mix_ge (by omega)]
theorem passN_pass (P : Nat → List Nat) (m : Nat) (T : PTree) : Pass P m T (passN P m T) := by
  refine ⟨?_, fun j h1 h2 => ?_⟩
  · unfold passN
    split
    · rfl
    · rfl
  · rw [← mkT_mix P m T j (by omega)]
    unfold passN
    rw [if_pos h2]
    show (if j = j then (if j = 0 then none else overU (mkT P T j) (P j)) else mkT P T j j) = _
    rw [if_pos rfl, if_neg (by omega)]
theorem passN_out (P : Nat → List Nat) (m : Nat) (T : PTree) (i : Nat) (h : m ≤ i) : passN P m T i = none := if_neg (by omega)
theorem mix_succ {j : Nat} {N T : PTree} : mixT (j + 1) N T = fun i => if i = j then N j else mixT j N T i := by
  funext i
  by_cases e : i = j
  · subst e; rw [mix_lt (by omega), if_pos rfl]
  · rw [if_neg e]
    by_cases q : i < j
    · rw [mix_lt q, mix_lt (by omega)]
    · rw [mix_ge (by omega), mix_ge (by omega)]

/- The rows. -/
/-- Each block's place among the first k of an order. -/
def plF (l : List Int) (n k : Nat) : List Int := (List.range n).map fun b : Nat => placeI (l.take k) (b : Int)
theorem plF_len (l : List Int) (n k : Nat) : (plF l n k).length = n := by simp [plF]
theorem plF_get (l : List Int) {n k b : Nat} (h : b < n) : gI (plF l n k) b = placeI (l.take k) (b : Int) := by
  unfold plF gI
  simp [h]
theorem plF_zero (l : List Int) (n : Nat) : plF l n 0 = List.replicate n (-1) := by
  apply List.ext_getElem (by simp [plF])
  intro i h1 h2
  simp [plF, placeI]
theorem placeI_snoc {l : List Int} {x : Int} (hx : x ∉ l) (b : Int) : placeI (l ++ [x]) b = if b = x then (l.length : Int) else placeI l b := by
  induction l with
  | nil =>
    rw [List.nil_append, placeI_cons]
    by_cases e : b = x
    · subst e; simp
    · rw [if_neg (fun q => e q.symm), if_neg e]
      simp [placeI]
  | cons y l ih =>
    rw [List.mem_cons, not_or] at hx
    rw [List.cons_append, placeI_cons, ih hx.2, placeI_cons]
    by_cases e : b = x
    · subst e
      rw [if_neg (fun q => hx.1 q.symm), if_pos rfl, if_pos rfl, if_neg (by omega)]
      simp
    · rw [if_neg e, if_neg e]
theorem plF_succ {l : List Int} (hn : l.Nodup) {n k : Nat} (hk : k < l.length) {b : Nat} (hb : gI l k = (b : Int)) : plF l n (k + 1) = (plF l n k).set b (k : Int) := by
  apply List.ext_getElem (by simp [plF])
  intro i h1 h2
  have hi : i < n := by simpa [plF] using h1
  rw [List.getElem_set]
  have hx : gI l k ∉ l.take k := by
    intro h
    obtain ⟨j, hj, e⟩ := List.mem_iff_getElem.1 h
    rw [List.getElem_take] at e
    have hj2 : j < k := by simp at hj; omega
    have := gI_inj hn (show j < l.length by omega) hk (by rw [gI_eq (by omega), e])
    omega
  have h3 : (plF l n (k + 1))[i] = placeI (l.take (k + 1)) (i : Int) := by simp [plF]
  have h4 : (plF l n k)[i]'(by simpa [plF] using hi) = placeI (l.take k) (i : Int) := by simp [plF]
  rw [h3, h4, List.take_succ_eq_append_getElem hk, ← gI_eq hk, placeI_snoc hx, hb, List.length_take, show min k l.length = k by omega]
  by_cases e : b = i
  · subst e; simp
  · rw [if_neg (fun q => e (by omega)), if_neg e]

/-- The row that holds a tree. -/
def uOf (l : List Int) (n : Nat) (T : PTree) : List Int := (List.range n).map fun k : Nat => if (k : Int) ∈ l then upI l T (placeI l (k : Int)).toNat else -1
theorem uOf_len (l : List Int) (n : Nat) (T : PTree) : (uOf l n T).length = n := by simp [uOf]
theorem uOf_get (l : List Int) {n k : Nat} (T : PTree) (h : k < n) : gI (uOf l n T) k = if (k : Int) ∈ l then upI l T (placeI l (k : Int)).toNat else -1 := by
  unfold uOf gI
  simp [h]
theorem uOf_none (l : List Int) (n : Nat) : uOf l n (fun _ => none) = List.replicate n (-1) := by
  apply List.ext_getElem (by simp [uOf])
  intro i h1 h2
  simp [uOf, upI]
theorem uOf_set {l : List Int} (hn : l.Nodup) {n j : Nat} (hj : j < l.length) {b : Nat} (hb : gI l j = (b : Int)) (T T' : PTree) (hT : ∀ i, i ≠ j → T' i = T i) : uOf l n T' = (uOf l n T).set b (upI l T' j) := by
  apply List.ext_getElem (by simp [uOf])
  intro i h1 h2
  have hi : i < n := by simpa [uOf] using h1
  rw [List.getElem_set]
  simp only [uOf, List.getElem_map, List.getElem_range]
  by_cases e : b = i
  · subst e
    rw [if_pos rfl, if_pos (by rw [← hb]; exact gI_mem hj), ← hb, place_gI hn hj]; rfl
  · rw [if_neg e]
    by_cases q : (i : Int) ∈ l
    · rw [if_pos q, if_pos q]
      obtain ⟨a, ha, e1, e2⟩ := mem_place q
      rw [e2]
      have : a ≠ j := by
        rintro rfl
        rw [hb] at e1
        omega
      unfold upI
      rw [show ((a : Int)).toNat = a by omega, hT a this]
    · rw [if_neg q, if_neg q]
theorem treeOk_of {bs : List Blk} (hc : Cl bs) {l : List Int} (ho : OrderIs bs l) {T : PTree} (hT : WfT T) (hout : ∀ i, l.length ≤ i → T i = none) : TreeOk l bs.length T (uOf l bs.length T) (plF l bs.length l.length) := by
  obtain ⟨h1, h2, h3, h4, h5⟩ := order_facts hc ho
  refine ⟨uOf_len _ _ _, plF_len _ _ _, hc.le, h1, h5, hT, hout, fun k hk => ?_, fun i hi => ?_, fun k hk hn => ?_⟩
  · rw [plF_get _ hk, List.take_length]
  · obtain ⟨q1, q2⟩ := h5 _ (gI_mem hi)
    rw [uOf_get _ _ (by omega), show (((gI l i).toNat : Nat) : Int) = gI l i by omega, if_pos (gI_mem hi), place_gI h1 hi]; rfl
  · rw [uOf_get _ _ hk, if_neg hn]
/-- The tree that a row holds. -/
def treeOf (l : List Int) (U : List Int) : PTree := fun i => if i < l.length then (if gI U (gI l i).toNat < 0 then none else some (placeI l (gI U (gI l i).toNat)).toNat) else none
theorem treeOf_uOf {bs : List Blk} (hc : Cl bs) {l : List Int} (ho : OrderIs bs l) {T : PTree} (hT : WfT T) (hout : ∀ i, l.length ≤ i → T i = none) : treeOf l (uOf l bs.length T) = T := by
  have hk := treeOk_of hc ho hT hout
  funext i
  unfold treeOf
  by_cases hi : i < l.length
  · rw [if_pos hi, hk.up i hi]
    unfold upI
    cases hq : T i with
    | none => simp
    | some j =>
      have := hT.lt _ _ hq
      have hj : j < l.length := by omega
      have := (hk.rg _ (gI_mem hj)).1
      rw [if_neg (by simp only; omega)]
      simp only
      rw [place_gI hk.nd hj]; rfl
  · rw [if_neg hi, hout i (by omega)]

/-- What a row of ints reads, off a world. -/
def rdRow (W : World) (g : Nat) : List Int := match W.heap[g]? with | some (.cells cs _ _) => cs.toList.map intOf | _ => []
theorem rdRow_eq {W : World} {g : Nat} {xs : List Int} {t : TypeId} (h : W.heap[g]? = some (.cells (xs.map (Value.int .i64)).toArray t (0, 0))) : rdRow W g = xs := by
  unfold rdRow
  rw [h]
  simp only [List.map_map]
  exact (List.map_congr_left (g := id) (fun x _ => rfl)).trans (List.map_id _)
def bOf : Value → Nat
  | .bool true => 1
  | _ => 0
/-- An accumulator, as a block; -1: none yet. -/
def accI (l : List Int) (acc : Option Nat) : Int := match acc with | some k => gI l k | none => -1
theorem accI_inj {l : List Int} (hn : l.Nodup) (hp : ∀ x ∈ l, 0 ≤ x) {a b : Option Nat} (ha : ∀ k, a = some k → k < l.length) (hb : ∀ k, b = some k → k < l.length) : accI l a = accI l b ↔ a = b := by
  constructor
  · intro h
    cases a with
    | none =>
      cases b with
      | none => rfl
      | some k =>
        have := hp _ (gI_mem (hb k rfl))
        simp only [accI] at h
        omega
    | some k =>
      cases b with
      | none =>
        have := hp _ (gI_mem (ha k rfl))
        simp only [accI] at h
        omega
      | some k' =>
        simp only [accI] at h
        rw [gI_inj hn (ha k rfl) (hb k' rfl) h]
  · rintro rfl; rfl

/-- What holds of the tree that is made. -/
structure DomOk (bs : List Blk) (l : List Int) (T : PTree) : Prop where
  ord : OrderIs bs l
  wf : WfT T
  tl : ∀ i, l.length ≤ i → T i = none
  dn : ∀ i, i < l.length → Dn T i
  an : ∀ i d, i < l.length → (An T i d ↔ ¬ Av (prP (edgesOf bs) l) l.length d i)
/-- made's answer. -/
def Made (w : World) (bs : List Blk) (e : Ending) (w' : World) : Prop :=
  ∃ (bu bp : Nat) (l : List Int) (T : PTree), e = .returned (.agg #[.slice (some ⟨bu, 0, none⟩) bs.length bs.length, .slice (some ⟨bp, 0, none⟩) bs.length bs.length]) ∧
    w'.heap[bu]? = some (.cells ((uOf l bs.length T).map (Value.int .i64)).toArray 3 (0, 0)) ∧ w'.heap[bp]? = some (.cells ((plF l bs.length l.length).map (Value.int .i64)).toArray 3 (0, 0)) ∧
    w.heap.size ≤ bu ∧ w.heap.size ≤ bp ∧ bu ≠ bp ∧ Below w.heap.size w w' ∧ DomOk bs l T
theorem start_none {P : Nat → List Nat} {m : Nat} : Start P m (fun _ => none) :=
  ⟨⟨fun _ _ h => by (cases h), fun _ _ h => by (cases h)⟩, fun _ _ _ h => by (cases h), fun _ _ => rfl, .inl fun _ => rfl⟩
theorem mix_self {j : Nat} {T : PTree} : mixT j T T = T := by funext i; unfold mixT; split <;> rfl
/-- One pass: what it leaves. -/
theorem pass_end {P : Nat → List Nat} {m : Nat} {T : PTree} (hG : GraphP P m) (hS : Start P m T) : Start P m (passN P m T) ∧ (∀ i k, passN P m T i = some k → k < m) ∧
    ((∀ i, i < m → passN P m T i = T i) → passN P m T = T ∧ ∀ j, 1 ≤ j → j < m → T j = overU T (P j)) ∧ ((∃ i, i < m ∧ passN P m T i ≠ T i) → weigh m (passN P m T) m < weigh m T m) := by
  have hP := passN_pass P m T
  have hN := passN_out P m T
  obtain ⟨h1, h2⟩ := pass_next hG hS hP hN
  have hlt : ∀ i k, passN P m T i = some k → k < m := fun i k h => by
    by_cases hi : i < m
    · have := h1.wf.lt _ _ h; omega
    · rw [hN i (by omega)] at h; cases h
  refine ⟨h1, hlt, fun hsame => ?_, fun ⟨i, hi, hne⟩ => ?_⟩
  · have e : passN P m T = T := by
      funext i
      by_cases hi : i < m
      · exact hsame i hi
      · rw [hN i (by omega), hS.out i (by omega)]
    refine ⟨e, fun j hj1 hj => ?_⟩
    have := hP.2 j hj1 hj
    rw [e, mix_self] at this
    exact this
  · exact weigh_lt hlt h2 (fun q => hne q.symm) m hi

def nextU (T : PTree) (acc : Option Nat) (p : Nat) : Option Nat := match acc with | none => some p | some u => some (meetF T (u + p) u p)
theorem stepU_done {T : PTree} {acc : Option Nat} {p : Nat} (h : Dn T p) : stepU T acc p = nextU T acc p := by
  unfold stepU
  rw [if_pos (doneB_iff.2 h)]; rfl
theorem dn_lt {l : List Int} {T : PTree} (hp : 0 < l.length) (ht : ∀ i, l.length ≤ i → T i = none) {i : Nat} (h : Dn T i) : i < l.length := by
  rcases h with rfl | ⟨j, hj⟩
  · exact hp
  · apply Nat.lt_of_not_le
    intro q
    rw [ht i q] at hj; cases hj
theorem uOf_i64 {bs : List Blk} (hc : Cl bs) {l : List Int} (ho : OrderIs bs l) {T : PTree} (hT : WfT T) (hout : ∀ i, l.length ≤ i → T i = none) : ∀ x ∈ uOf l bs.length T, I64 x := by
  obtain ⟨h1, h2, h3, h4, h5⟩ := order_facts hc ho
  have hle := hc.le
  have hk := treeOk_of hc ho hT hout
  intro x hx
  obtain ⟨k, hk1, rfl⟩ := List.mem_iff_getElem.1 hx
  have hkn : k < bs.length := by simpa [uOf] using hk1
  rw [← gI_eq hk1]
  by_cases q : (k : Int) ∈ l
  · obtain ⟨i, hi, e, _⟩ := mem_place q
    have := (hk.upk hi e).1
    rw [this]
    unfold upI
    cases hq : T i with
    | none => exact (show I64 (-1) from ⟨by omega, by omega⟩)
    | some j =>
      have hlt := hT.lt _ _ hq
      obtain ⟨q1, q2⟩ := h5 _ (gI_mem (show j < l.length by omega))
      exact (show I64 (gI l j) from ⟨by omega, by omega⟩)
  · rw [hk.out k hkn q]
    exact ⟨by omega, by omega⟩
theorem plF_i64 (l : List Int) (n k : Nat) (hl : l.length ≤ 100000) : ∀ x ∈ plF l n k, I64 x := by
  intro x hx
  unfold plF at hx
  obtain ⟨b, _, rfl⟩ := List.mem_map.1 hx
  have := placeI_lo (l.take k) (b : Int)
  have h2 : (l.take k).length ≤ l.length := by rw [List.length_take]; omega
  exact ⟨by omega, by omega⟩
theorem pre_snoc {l : List Int} {T : PTree} {ps : List Int} {y : Nat} (hy : y < ps.length) : overU T ((ps.take (y + 1)).filterMap (plN l)) = match plN l (gI ps y) with | none => overU T ((ps.take y).filterMap (plN l)) | some p => stepU T (overU T ((ps.take y).filterMap (plN l))) p := by
  rw [List.take_succ_eq_append_getElem hy, List.filterMap_append, gI_eq hy]
  cases h : plN l ps[y] with
  | none => simp [h]
  | some p => simp [h, overU_snoc]

end Go.Proofs.Ytjichaeegheacaa
