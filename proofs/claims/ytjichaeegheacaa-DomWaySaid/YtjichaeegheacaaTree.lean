
/-
  A region that draws its order, walked along a tree: looks first; one call at a time; two where either may come up.
-/
import Derived.Test.YtjichaeegheacaaMix
import Derived.Deep.MidRow
namespace Go.Proofs.Ytjichaeegheacaa
open Go Go.RowKit

inductive MT where
  | done : MT
  | look (l : List Nat) (t : MT) : MT
  | one (i : Nat) (t : MT) : MT
  | two (i : Nat) (t : MT) (j : Nat) (u : MT) : MT
def MT.deep : MT → Nat
  | .done => 0
  | .look l t => l.length + t.deep
  | .one _ t => t.deep + 1
  | .two _ t _ _ => t.deep + 1
def stepT (P : Program) (ops : Array Oper) (S : World → Prop) (Q : Exit → Act → World → Prop) (i : Nat) (K : Act → World → Prop) (a : Act) (w : World) : Prop :=
  match ops[i]? with
  | some o => wpList P ops (mixPost S Q K) [o] a w
  | none => False
def wpTree (P : Program) (ops : Array Oper) (S : World → Prop) (Q : Exit → Act → World → Prop) (Lq : Act → World → Prop) : MT → Act → World → Prop
  | .done, a, w => Lq a w
  | .look l t, a, w => wpQuiet P ops S (fun a' => wpTree P ops S Q Lq t a' w) (l.filterMap fun i => ops[i]?) a
  | .one i t, a, w => stepT P ops S Q i (wpTree P ops S Q Lq t) a w
  | .two i t j u, a, w => stepT P ops S Q i (wpTree P ops S Q Lq t) a w ∧ stepT P ops S Q j (wpTree P ops S Q Lq u) a w
def lookI (ops : Array Oper) : List Nat → Array Bool → Bool
  | [], _ => true
  | i :: l, listed => (match ops[i]? with | some o => looksB o.op | none => false) && ((Region.ready .any ops listed).contains i && (Region.free .any ops listed i && lookI ops l (listed.setIfInBounds i true)))
def treeB (ops : Array Oper) (n : Nat) (T : Array Bool → Bool) : MT → Array Bool → Bool
  | .done, listed => T listed
  | .look l t, listed => l.all (fun i => decide (i < n)) && (lookI ops l listed && treeB ops n T t (l.foldl (fun s i => s.setIfInBounds i true) listed))
  | .one i t, listed => decide (i < n) && (decide (Region.ready .any ops listed = [i]) && treeB ops n T t (listed.setIfInBounds i true))
  | .two i t j u, listed => decide (i < n ∧ j < n ∧ t.deep = u.deep) && (decide (Region.ready .any ops listed = [i, j]) && (treeB ops n T t (listed.setIfInBounds i true) && treeB ops n T u (listed.setIfInBounds j true)))

section
variable {P : Program} {ops : Array Oper} {S : World → Prop} {Q : Exit → Act → World → Prop}

theorem wpOp_of_step {i : Nat} {K K' : Act → World → Prop} {a : Act} {w : World} (h : stepT P ops S Q i K a w) (hK : ∀ a w, S w → K a w → K' a w) : wpOp P ops Q i (fun a' w' => S w' ∧ K' a' w') a w := by
  unfold stepT at h
  cases h0 : ops[i]? with
  | none => rw [h0] at h; exact h.elim
  | some o =>
    simp only [h0] at h
    have hw : wpOp P ops (mixPost S Q K) i (fun a' w' => S w' ∧ K a' w') a w := by
      unfold wpOp; simp only [h0]; exact h
    have hw2 : wpOp P ops Q i (fun a' w' => S w' ∧ K a' w') a w := by
      unfold wpOp at hw ⊢
      simp only [h0] at hw ⊢
      split
      · rename_i hwt
        rw [if_pos hwt] at hw
        rcases hw with hw | ⟨h1, h2⟩
        · refine .inl ?_
          unfold Oper.wp at hw ⊢
          generalize (execOp a.eval o).run P w = res at *
          cases res with
          | ok nx w' => cases nx <;> exact hw
          | halt x w' => cases x <;> exact hw
        · exact .inr ⟨h1, h2⟩
      · rename_i hwt; rw [if_neg hwt] at hw; exact hw
    exact wpOp_mono (fun a' w' h' => ⟨h'.1, hK _ _ h'.1 h'.2⟩) hw2

theorem headM_lookI {n : Nat} {L : Array Bool → Act → World → Prop} (hsel : Region.noSelect ops = true) (hQ : ∀ d v c a w, Q (.panic c) (Act.put a d v) w → Q (.panic c) a w)
    (hb : ∀ listed, HeadInv .any ops n listed → ∀ k, k < n → listed.getD k true = false → ∀ j ∈ Region.ready .any ops listed, j < n) (hdone : ∀ listed a w, L listed a w → ∀ j ∈ Region.ready .any ops listed, n ≤ j)
    (w : World) (hS : S w) (m : Nat) (R : Act → Prop) (l : List Nat) :
    ∀ (listed : Array Bool) (a : Act), (∀ i ∈ l, i < n) → HeadInv .any ops n listed → lookI ops l listed = true →
    (HeadInv .any ops n (l.foldl (fun s i => s.setIfInBounds i true) listed) → ∀ a', R a' → headM P ops S Q n L m (l.foldl (fun s i => s.setIfInBounds i true) listed) a' w) →
    wpQuiet P ops S R (l.filterMap fun i => ops[i]?) a → headM P ops S Q n L (l.length + m) listed a w := by
  induction l with
  | nil =>
    intro listed a _ inv _ hR h
    rw [List.length_nil, Nat.zero_add]
    exact hR inv a h
  | cons k l ih =>
    intro listed a hl inv hB hR h
    simp only [lookI, Bool.and_eq_true] at hB
    obtain ⟨hlk, hr, hf, hB'⟩ := hB
    cases h0 : ops[k]? with
    | none => rw [h0] at hlk; cases hlk
    | some o =>
      rw [h0] at hlk
      rw [List.filterMap_cons_some h0] at h
      have hr' : k ∈ Region.ready .any ops listed := by simpa using hr
      have hst : qOp P ops S k (wpQuiet P ops S R (l.filterMap fun i => ops[i]?)) a := by unfold qOp; simp only [h0]; exact h
      obtain ⟨v, hy, hK⟩ := yieldsIn_of_qOp h0 hst
      rw [List.length_cons, Nat.add_right_comm]
      have hkn := hl k (List.mem_cons_self ..)
      refine headM_first h0 (Region.noSelect_spec hsel) (hQ o.dst v) hb hkn hdone _ listed a w inv (Region.free_spec h0 hf) hr' (yields_of_looks hlk hy) hS ?_
      exact ih _ _ (fun i hi => hl i (List.mem_cons_of_mem _ hi)) (inv.set hr' hkn) hB' (fun i2 => hR i2) hK

theorem headM_tree {n : Nat} {L : Array Bool → Act → World → Prop} {Lq : Act → World → Prop} {T : Array Bool → Bool} (hsel : Region.noSelect ops = true) (hQ : ∀ d v c a w, Q (.panic c) (Act.put a d v) w → Q (.panic c) a w)
    (hb : ∀ listed, HeadInv .any ops n listed → ∀ k, k < n → listed.getD k true = false → ∀ j ∈ Region.ready .any ops listed, j < n) (hdone : ∀ listed a w, L listed a w → ∀ j ∈ Region.ready .any ops listed, n ≤ j)
    (hL : ∀ listed a w, T listed = true → Lq a w → L listed a w) (t : MT) :
    ∀ (listed : Array Bool) (a : Act) (w : World), S w → HeadInv .any ops n listed → treeB ops n T t listed = true → wpTree P ops S Q Lq t a w → headM P ops S Q n L t.deep listed a w := by
  induction t with
  | done => intro listed a w _ _ hB h; exact hL _ _ _ hB h
  | look l t ih =>
    intro listed a w hS inv hB h
    simp only [treeB, Bool.and_eq_true, List.all_eq_true, decide_eq_true_eq] at hB
    exact headM_lookI hsel hQ hb hdone w hS _ _ l listed a hB.1 inv hB.2.1 (fun i2 a' h' => ih _ a' w hS i2 hB.2.2 h') h
  | one i t ih =>
    intro listed a w hS inv hB h
    simp only [treeB, Bool.and_eq_true, decide_eq_true_eq] at hB
    obtain ⟨hin, hr, hB'⟩ := hB
    have hrk : i ∈ Region.ready .any ops listed := by rw [hr]; exact List.mem_singleton.2 rfl
    refine ⟨List.ne_nil_of_mem hrk, fun j hj => ?_⟩
    rw [hr] at hj
    obtain rfl : j = i := by simpa using hj
    exact ⟨hin, wpOp_of_step h fun a' w' hS' h' => ih _ a' w' hS' (inv.set hrk hin) hB' h'⟩
  | two i t j u iht ihu =>
    intro listed a w hS inv hB h
    simp only [treeB, Bool.and_eq_true, decide_eq_true_eq] at hB
    obtain ⟨⟨hin, hjn, hd⟩, hr, hBt, hBu⟩ := hB
    have hri : i ∈ Region.ready .any ops listed := by rw [hr]; simp
    have hrj : j ∈ Region.ready .any ops listed := by rw [hr]; simp
    refine ⟨List.ne_nil_of_mem hri, fun k hk => ?_⟩
    rw [hr] at hk
    have hk' : k = i ∨ k = j := by simpa using hk
    by_cases hki : k = i
    · subst hki
      exact ⟨hin, wpOp_of_step h.1 fun a' w' hS' h' => iht _ a' w' hS' (inv.set hri hin) hBt h'⟩
    · obtain rfl : k = j := hk'.resolve_left hki
      refine ⟨hjn, wpOp_of_step h.2 fun a' w' hS' h' => ?_⟩
      show headM P ops S Q n L t.deep _ a' w'
      rw [hd]
      exact ihu _ a' w' hS' (inv.set hrj hjn) hBu h'
end

section
variable {P : Program} {S : World → Prop} {Q : Exit → Act → World → Prop}
/-- The whole region along a tree; behind each call the condition is shown anew. -/
theorem wp_region_tree (t : MT) {id : Nat} {a : Act} {w : World} {l : List Oper} (hm : P.follows .mixedOrders = true)
    (hB : (Region.noSelect l.toArray && (decide (t.deep = l.length) && treeB l.toArray l.length (fun s => decide (Region.ready .any l.toArray s = [])) t (Array.replicate l.toArray.size false))) = true) (hS : S { w with drawn := w.drawn + 1 })
    (hQ : ∀ d v c a w, Q (.panic c) (Act.put a d v) w → Q (.panic c) a w)
    (h : wpTree P l.toArray S Q (fun a w => Q .normal a w) t a { w with drawn := w.drawn + 1 }) : (Code.region id l.toArray true).wp P Q a w := by
  simp only [Bool.and_eq_true, decide_eq_true_eq] at hB
  obtain ⟨hsel, hd, hB⟩ := hB
  have inv0 : HeadInv .any l.toArray l.length (Array.replicate l.toArray.size false) :=
    ⟨by simp, fun j oj _ hl => (by rw [getD_replicate_false] at hl; cases hl), fun t h1 h2 => absurd h2 (by simp; omega)⟩
  have H := headM_tree (P := P) (S := S) (Q := Q) (n := l.length) (L := fun s a w => Region.ready .any l.toArray s = [] ∧ Q .normal a w) (Lq := fun a w => Q .normal a w) (T := fun s => decide (Region.ready .any l.toArray s = [])) hsel hQ
    (fun listed _ _ _ _ j hj => by
      obtain ⟨_, oj, hoj, _⟩ := mem_ready.1 hj
      simpa using (Array.getElem?_eq_some_iff.1 hoj).1)
    (fun listed a w hL j hj => by rw [hL.1] at hj; cases hj) (fun listed a w hT hL => ⟨of_decide_eq_true hT, hL⟩) t _ a _ hS inv0 hB h
  refine wp_region_any hm ?_
  have := any_of_headM (P := P) (S := S) (Q := Q) (g := 0) (fun listed a' W hL => (show wpAny P .any l.toArray Q 0 listed a' W from hL)) _ _ _ _ H
  rw [hd] at this
  simpa using this

/-- The same where the last operations come in one order, and need not keep the condition. -/
theorem wp_region_tree_tail (t : MT) {id : Nat} {a : Act} {w : World} {l : List Oper} (hm : P.follows .mixedOrders = true)
    (hB : (Region.noSelect l.toArray && (decide (t.deep < l.length) && (Region.sinkB .any l.toArray t.deep && (Region.chainB .any l.toArray t.deep && treeB l.toArray t.deep (fun s => Region.seqB .any l.toArray (l.length - t.deep) t.deep s) t (Array.replicate l.toArray.size false))))) = true)
    (hS : S { w with drawn := w.drawn + 1 }) (hQ : ∀ d v c a w, Q (.panic c) (Act.put a d v) w → Q (.panic c) a w)
    (h : wpTree P l.toArray S Q (fun a w => wpList P l.toArray Q (l.drop t.deep) a w) t a { w with drawn := w.drawn + 1 }) : (Code.region id l.toArray true).wp P Q a w := by
  simp only [Bool.and_eq_true, decide_eq_true_eq] at hB
  obtain ⟨hsel, hn, hs, hc, hB⟩ := hB
  have hn' : t.deep < l.toArray.size := by simpa using hn
  have hdl : (l.drop t.deep).length = l.length - t.deep := by simp
  have inv0 : HeadInv .any l.toArray t.deep (Array.replicate l.toArray.size false) :=
    ⟨by simp, fun j oj _ hl => (by rw [getD_replicate_false] at hl; cases hl), fun t _ ht => getD_in (by simpa using ht) (getD_replicate_false _ _)⟩
  have H := headM_tree (P := P) (S := S) (Q := Q) (n := t.deep) (L := fun s a w => Region.seqB .any l.toArray (l.length - t.deep) t.deep s = true ∧ wpList P l.toArray Q (l.drop t.deep) a w) (Lq := fun a w => wpList P l.toArray Q (l.drop t.deep) a w) (T := fun s => Region.seqB .any l.toArray (l.length - t.deep) t.deep s) hsel hQ
    (fun listed inv k hk hun j hj => Nat.lt_of_not_le fun h => tail_waits hs hc hn' inv _ k rfl hk hun j h hj)
    (fun listed a w hL => seqB_ready hL.1) (fun listed a w hT hL => ⟨hT, hL⟩) t _ a _ hS inv0 hB h
  refine wp_region_any hm ?_
  have := any_of_headM (P := P) (S := S) (Q := Q) (g := l.length - t.deep) (fun listed a' W hL => by
    have := wpAny_of_seq (md := .any) (P := P) (Q' := Q) (l.drop t.deep) t.deep listed a' W (fun j => by simp [List.getElem?_drop]) (by rw [hdl]; exact hL.1) hL.2
    rwa [hdl] at this) _ _ _ _ H
  rw [show t.deep + (l.length - t.deep) = l.toArray.size by simp; omega] at this
  exact this
end

/- The moves of a walk along a tree. -/
def nthO : List Oper → Nat → Option Oper
  | [], _ => none
  | o :: _, 0 => some o
  | _ :: l, i + 1 => nthO l i
def pickL (l : List Oper) : List Nat → List Oper
  | [] => []
  | i :: is => match nthO l i with
    | some o => o :: pickL l is
    | none => pickL l is
theorem nthO_eq : ∀ (l : List Oper) (i : Nat), nthO l i = l.toArray[i]?
  | [], i => by simp [nthO]
  | o :: l, 0 => by simp [nthO]
  | o :: l, i + 1 => by rw [nthO, nthO_eq l i]; simp
theorem pickL_eq (l : List Oper) (is : List Nat) : (is.filterMap fun i => l.toArray[i]?) = pickL l is := by
  induction is with
  | nil => rfl
  | cons i is ih =>
    rw [List.filterMap_cons, ← nthO_eq, pickL, ih]
    cases nthO l i <;> rfl

section
variable {P : Program} {l : List Oper} {S : World → Prop} {Q : Exit → Act → World → Prop} {Lq : Act → World → Prop} {a : Act} {w : World}
theorem tree_look {is : List Nat} {t : MT} (h : wpQuiet P l.toArray S (fun a' => wpTree P l.toArray S Q Lq t a' w) (pickL l is) a) : wpTree P l.toArray S Q Lq (.look is t) a w := by
  rw [← pickL_eq] at h; exact h
theorem step_list {i : Nat} {o : Oper} {K : Act → World → Prop} (ho : nthO l i = some o) (h : wpList P l.toArray (mixPost S Q K) [o] a w) : stepT P l.toArray S Q i K a w := by
  unfold stepT; rw [← nthO_eq, ho]; exact h
theorem tree_one {i : Nat} {t : MT} {o : Oper} (ho : nthO l i = some o) (h : wpList P l.toArray (mixPost S Q (wpTree P l.toArray S Q Lq t)) [o] a w) : wpTree P l.toArray S Q Lq (.one i t) a w := step_list ho h
theorem tree_two {i j : Nat} {t u : MT} {o o' : Oper} (ho : nthO l i = some o) (ho' : nthO l j = some o') (h : wpList P l.toArray (mixPost S Q (wpTree P l.toArray S Q Lq t)) [o] a w)
    (h' : wpList P l.toArray (mixPost S Q (wpTree P l.toArray S Q Lq u)) [o'] a w) : wpTree P l.toArray S Q Lq (.two i t j u) a w := ⟨step_list ho h, step_list ho' h'⟩
theorem tree_done (h : Lq a w) : wpTree P l.toArray S Q Lq .done a w := h
end

section
variable {P : Program} {C : World → Prop} {a : Act} {o : Oper} {K : Act → Prop}
/-- A load of one cell that is a slice. -/
theorem q_loadS (ty : TypeId) (x : Operand) (ho : o.op = .load ty x) (p : Addr) (hx : a.eval x = .pointer (some p)) (e : TypeId) (hu : P.underlying ty = some (.slice e)) (v : Value) (hc : ∀ W, C W → W.cell? p = some v)
    (hk : K (a.put o.dst v)) : o.quiet P a C K := by
  refine ⟨v, fun W hW => ?_, hk⟩
  unfold Oper.quietAt execOp
  have h := hc W hW
  simp [ho, hx, Instr.loadAt, Instr.sureAddr, loadVar, isAgg, run_underlying hu, h, Oper.quietUpon]
/-- A load of a struct in the midst of a block. -/
theorem q_loadM (ty : TypeId) (x : Operand) (ho : o.op = .load ty x) (b f : Nat) (hx : a.eval x = .pointer (some ⟨b, f, none⟩)) (cs : List Value) (d : TypeDesc) (hc : ∀ W, C W → W.rangeAt b f cs)
    (hu : P.underlying ty = some d) (hd : d.isRow = true) (hi : (P.info? ty).map (·.size) = some cs.length) (hk : K (a.put o.dst (.agg cs.toArray))) : o.quiet P a C K := by
  refine ⟨.agg cs.toArray, fun W hW => ?_, hk⟩
  unfold Oper.quietAt execOp
  simp only [ho, hx, Instr.loadAt, Instr.sureAddr, Sem.run_bind, Sem.run_pure, Result.andThen_ok, run_loadVar_mid W b f ty cs d (hc W hW) hu hd hi, Oper.quietUpon, and_self]
end

end Go.Proofs.Ytjichaeegheacaa
