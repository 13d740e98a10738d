
/-
  A region that draws its order: operations that only look (loads, sums, addresses) may be taken first, whatever calls run beside them, where a condition on the world is kept; the calls come one at a time.
-/
import Derived.Test.YtjichaeegheacaaTail
import Derived.OrdersHeld
namespace Go.Proofs.Ytjichaeegheacaa
open Go Go.RowKit

/-- An operation that hands back a value and never calls. -/
def looksB : Op → Bool
  | .move _ | .assign _ | .pick _ _ _ | .load _ _ | .binOp _ _ _ _ _ | .unOp _ _ _ | .fieldAddr _ _ _ | .field _ _ _ | .indexAddr _ _ _ | .index _ _ _ | .slice _ _ _ _ _ | .extract _ _ => true
  | .call c => match c.callee with
    | .builtin .len => true
    | _ => false
  | _ => false

theorem looks_value {P : Program} {o : Oper} (h : looksB o.op = true) {ρ : Operand → Value} {w w' : World} {n : Next} (hr : (execOp ρ o).run P w = .ok n w') : ∃ u, n = .value u := by
  have key2 : ∀ s : Sem Value, ((s.run P w).andThen fun a w' => Result.ok (Next.value a) w') = .ok n w' → ∃ u, n = .value u := by
    intro s hs
    cases hq : s.run P w with
    | ok u w1 => rw [hq] at hs; simp at hs; exact ⟨u, hs.1.symm⟩
    | halt x w1 => rw [hq] at hs; cases hs
  have key : ∀ s : Sem Value, ((do pure (Next.value (← s)) : Sem Next)).run P w = .ok n w' → ∃ u, n = .value u := by
    intro s hs
    rw [Sem.run_bind] at hs
    exact key2 s hs
  unfold execOp at hr
  revert h hr
  cases o.op with
  | move x => intro _ hr; simp at hr; exact ⟨_, hr.1.symm⟩
  | assign x => intro _ hr; simp at hr; exact ⟨_, hr.1.symm⟩
  | pick c a b =>
    intro _ hr
    simp only [Sem.run_bind] at hr
    cases hq : (asBool (ρ c)).run P w with
    | ok u w1 => rw [hq] at hr; simp at hr; exact ⟨_, hr.1.symm⟩
    | halt x w1 => rw [hq] at hr; cases hr
  | load t a => intro _ hr; exact key _ hr
  | binOp op t x y s => intro _ hr; exact key _ hr
  | unOp op t x => intro _ hr; exact key _ hr
  | fieldAddr s x f => intro _ hr; exact key _ hr
  | field t x f => intro _ hr; exact key _ hr
  | indexAddr t x i => intro _ hr; exact key _ hr
  | index t x i => intro _ hr; exact key _ hr
  | slice t x lo hi mx => intro _ hr; exact key _ hr
  | extract t i => intro _ hr; exact key _ hr
  | call c =>
    intro h hr
    obtain ⟨callee, args, argTypes⟩ := c
    cases callee with
    | builtin b =>
      cases b with
      | len =>
        simp only [resolve, Sem.run_bind, Sem.run_pure, Result.andThen_ok, invoke, builtin] at hr
        exact key2 _ hr
      | _ => cases h
    | _ => cases h
  | _ => intro h; cases h

section
variable {P : Program} {ops : Array Oper} {S : World → Prop} {Q : Exit → Act → World → Prop}

theorem yields_of_looks {o : Oper} {a : Act} {v : Value} (hl : looksB o.op = true) (h : YieldsIn P ops S o v a) : YieldsIf P ops S o v a := by
  rcases h with ⟨hw, hv⟩ | h
  · refine .inl ⟨hw, fun w hS => ?_⟩
    have h1 := hv w hS
    unfold Oper.quietAt at h1
    cases hr : (execOp a.eval o).run P w with
    | ok n w' =>
      obtain ⟨u, rfl⟩ := looks_value hl hr
      rw [hr] at h1
      obtain ⟨e1, e2⟩ := h1
      rw [e1, e2]
    | halt x w' => rw [hr] at h1; exact h1.elim
  · exact .inr h

/-- f operations in whatever order, all ahead of number n, the condition kept; then L. -/
def headM (P : Program) (ops : Array Oper) (S : World → Prop) (Q : Exit → Act → World → Prop) (n : Nat) (L : Array Bool → Act → World → Prop) : Nat → Array Bool → Act → World → Prop
  | 0, listed, a, w => L listed a w
  | f + 1, listed, a, w => Region.ready .any ops listed ≠ [] ∧ ∀ i ∈ Region.ready .any ops listed, i < n ∧ wpOp P ops Q i (fun a' w' => S w' ∧ headM P ops S Q n L f (listed.setIfInBounds i true) a' w') a w

theorem any_of_headM {n g : Nat} {L : Array Bool → Act → World → Prop} (hL : ∀ listed a w, L listed a w → wpAny P .any ops Q g listed a w) :
    ∀ (f : Nat) (listed : Array Bool) (a : Act) (w : World), headM P ops S Q n L f listed a w → wpAny P .any ops Q (f + g) listed a w := by
  intro f
  induction f with
  | zero => intro listed a w h; rw [Nat.zero_add]; exact hL _ _ _ h
  | succ f ih =>
    intro listed a w h
    rw [Nat.add_right_comm]
    exact ⟨fun h0 => absurd h0 h.1, fun i hi => wpOp_mono (fun a' w' h' => ih _ a' w' h'.2) (h.2 i hi).2⟩

theorem headM_first {n i : Nat} {oi : Oper} {v : Value} {L : Array Bool → Act → World → Prop} (hi : ops[i]? = some oi) (hsel : ∀ (j : Nat) (o : Oper) cs b, ops[j]? = some o → o.op ≠ .select cs b)
    (hQ : ∀ c a w, Q (.panic c) (a.put oi.dst v) w → Q (.panic c) a w)
    (hb : ∀ listed, HeadInv .any ops n listed → ∀ k, k < n → listed.getD k true = false → ∀ j ∈ Region.ready .any ops listed, j < n) (hin : i < n) (hdone : ∀ listed a w, L listed a w → ∀ j ∈ Region.ready .any ops listed, n ≤ j) :
    ∀ (f : Nat) (listed : Array Bool) (a : Act) (w : World), HeadInv .any ops n listed →
      (∀ j oj, ops[j]? = some oj → j ≠ i → listed.getD j true = false → (∀ e ∈ oj.after, Region.binds .any e = true → e.on ≠ i) → oi.apart ops oj = true) →
      i ∈ Region.ready .any ops listed → YieldsIf P ops S oi v a → S w →
      headM P ops S Q n L f (listed.setIfInBounds i true) (a.put oi.dst v) w → headM P ops S Q n L (f + 1) listed a w := by
  intro f
  induction f with
  | zero =>
    intro listed a w inv _ hr hy hS H
    have hun := (mem_ready.1 hr).1
    refine ⟨List.ne_nil_of_mem hr, fun j hj => ?_⟩
    have hjn := hb listed inv i hin hun j hj
    refine ⟨hjn, ?_⟩
    by_cases hji : j = i
    · subst hji; exact hy.wpOp hi hS ⟨hS, H⟩
    · exact absurd (hdone _ _ _ H j (ready_mono hj hji)) (by omega)
  | succ f ih =>
    intro listed a w inv hfree hr hy hS H
    have hun := (mem_ready.1 hr).1
    refine ⟨List.ne_nil_of_mem hr, fun j hj => ?_⟩
    have hjn := hb listed inv i hin hun j hj
    refine ⟨hjn, ?_⟩
    by_cases hji : j = i
    · subst hji; exact hy.wpOp hi hS ⟨hS, H⟩
    · have h1 := (H.2 j (ready_mono hj hji)).2
      obtain ⟨hjun, oj, hoj, hall⟩ := mem_ready.1 hj
      have hnot : ∀ e ∈ oj.after, Region.binds .any e = true → e.on ≠ i := fun e he hb heq => by
        have h1 := hall e he hb
        rw [heq, getD_both hun] at h1
        cases h1
      have h2 := wpOp_putIf hoj (hfree j oj hoj hji hjun hnot) (fun cs b => hsel i oi cs b hi) (fun cs b => hsel j oj cs b hoj) hQ hy h1
      refine wpOp_mono (fun a' w' h3 => ⟨h3.2.1, ih (listed.setIfInBounds j true) a' w' (inv.set hj hjn) (fun k ok hk hki hku hno => ?_) (ready_mono hr (Ne.symm hji)) h3.1 h3.2.1 ?_⟩) h2
      · refine hfree k ok hk hki ?_ hno
        by_cases hjk : j = k
        · subst hjk; exact hjun
        · rw [getD_set_ne true hjk] at hku; exact hku
      · rw [Array.setIfInBounds_comm _ _ hji]
        exact h3.2.2

/-- The post behind a call in the midst: the condition is shown anew. -/
def mixPost (S : World → Prop) (Q : Exit → Act → World → Prop) (K : Act → World → Prop) : Exit → Act → World → Prop
  | .normal, a, w => S w ∧ K a w
  | e, a, w => Q e a w

/-- The walk: pieces that only look, and single operations that may do more. -/
def wpMix (P : Program) (ops : Array Oper) (S : World → Prop) (Q : Exit → Act → World → Prop) (Lq : Act → World → Prop) : List (List Oper ⊕ Oper) → Act → World → Prop
  | [], a, w => Lq a w
  | .inl l :: r, a, w => wpQuiet P ops S (fun a' => wpMix P ops S Q Lq r a' w) l a
  | .inr o :: r, a, w => wpList P ops (mixPost S Q (wpMix P ops S Q Lq r)) [o] a w

/-- The check of the order, by Bools: from number k on, with what is listed. -/
def lookB (ops : Array Oper) : List Oper → Nat → Array Bool → Bool
  | [], _, _ => true
  | o :: l, k, listed => looksB o.op && ((Region.ready .any ops listed).contains k && (Region.free .any ops listed k && lookB ops l (k + 1) (listed.setIfInBounds k true)))
def mixB (ops : Array Oper) (T : Array Bool → Bool) : List (List Oper ⊕ Oper) → Nat → Array Bool → Bool
  | [], _, listed => T listed
  | .inl l :: r, k, listed => lookB ops l k listed && mixB ops T r (k + l.length) ((List.range' k l.length).foldl (fun s i => s.setIfInBounds i true) listed)
  | .inr _ :: r, k, listed => decide (Region.ready .any ops listed = [k]) && mixB ops T r (k + 1) (listed.setIfInBounds k true)
def flatM : List (List Oper ⊕ Oper) → List Oper
  | [] => []
  | .inl l :: r => l ++ flatM r
  | .inr o :: r => o :: flatM r

theorem ready_inv {n k : Nat} {listed : Array Bool} (inv : HeadInv .any ops n listed) (hr : k ∈ Region.ready .any ops listed) (hk : k < n) : HeadInv .any ops n (listed.setIfInBounds k true) := inv.set hr hk

theorem headM_looks {n : Nat} {L : Array Bool → Act → World → Prop} (hsel : Region.noSelect ops = true) (hQ : ∀ d v c a w, Q (.panic c) (Act.put a d v) w → Q (.panic c) a w)
    (hb : ∀ listed, HeadInv .any ops n listed → ∀ k, k < n → listed.getD k true = false → ∀ j ∈ Region.ready .any ops listed, j < n) (hdone : ∀ listed a w, L listed a w → ∀ j ∈ Region.ready .any ops listed, n ≤ j)
    (w : World) (hS : S w) (m : Nat) (R : Act → Prop) (l : List Oper) :
    ∀ (k : Nat) (listed : Array Bool) (a : Act), (∀ j, j < l.length → l[j]? = ops[k + j]?) → k + l.length ≤ n → HeadInv .any ops n listed → lookB ops l k listed = true →
    (HeadInv .any ops n ((List.range' k l.length).foldl (fun s i => s.setIfInBounds i true) listed) → ∀ a', R a' → headM P ops S Q n L m ((List.range' k l.length).foldl (fun s i => s.setIfInBounds i true) listed) a' w) →
    wpQuiet P ops S R l a → headM P ops S Q n L (l.length + m) listed a w := by
  induction l with
  | nil =>
    intro k listed a _ _ inv _ hR h
    rw [List.length_nil, Nat.zero_add]
    exact hR inv a h
  | cons o l ih =>
    intro k listed a hl hk inv hB hR h
    have h0 : ops[k]? = some o := by simpa using (hl 0 (by simp)).symm
    simp only [lookB, List.length_cons, Bool.and_eq_true] at hB hk
    obtain ⟨hlk, hr, hf, hB'⟩ := hB
    have hr' : k ∈ Region.ready .any ops listed := by simpa using hr
    have hst : qOp P ops S k (wpQuiet P ops S R l) a := by unfold qOp; simp only [h0]; exact h
    obtain ⟨v, hy, hK⟩ := yieldsIn_of_qOp h0 hst
    rw [List.length_cons, Nat.add_right_comm]
    refine headM_first h0 (Region.noSelect_spec hsel) (hQ o.dst v) hb (by omega) hdone _ listed a w inv (Region.free_spec h0 hf) hr' (yields_of_looks hlk hy) hS ?_
    exact ih (k + 1) _ _ (fun j hj => by have := hl (j + 1) (by simp; omega); simpa [Nat.add_assoc, Nat.add_comm 1 j] using this) (by omega) (inv.set hr' (by omega)) hB' (fun i2 => hR i2) hK

theorem headM_mix {n : Nat} {L : Array Bool → Act → World → Prop} {Lq : Act → World → Prop} {T : Array Bool → Bool} (hsel : Region.noSelect ops = true) (hQ : ∀ d v c a w, Q (.panic c) (Act.put a d v) w → Q (.panic c) a w)
    (hb : ∀ listed, HeadInv .any ops n listed → ∀ k, k < n → listed.getD k true = false → ∀ j ∈ Region.ready .any ops listed, j < n) (hdone : ∀ listed a w, L listed a w → ∀ j ∈ Region.ready .any ops listed, n ≤ j)
    (hL : ∀ listed a w, T listed = true → Lq a w → L listed a w) (segs : List (List Oper ⊕ Oper)) :
    ∀ (k : Nat) (listed : Array Bool) (a : Act) (w : World), S w → (∀ j, j < (flatM segs).length → (flatM segs)[j]? = ops[k + j]?) → k + (flatM segs).length ≤ n → HeadInv .any ops n listed → mixB ops T segs k listed = true →
    wpMix P ops S Q Lq segs a w → headM P ops S Q n L (flatM segs).length listed a w := by
  induction segs with
  | nil => intro k listed a w _ _ _ _ hB h; exact hL _ _ _ hB h
  | cons s r ih =>
    intro k listed a w hS hl hk inv hB h
    cases s with
    | inl l =>
      simp only [flatM, List.length_append] at hl hk ⊢
      simp only [mixB, Bool.and_eq_true] at hB
      refine headM_looks hsel hQ hb hdone w hS _ _ l k listed a (fun j hj => ?_) (by omega) inv hB.1 (fun i2 a' h' => ?_) h
      · have := hl j (by omega)
        rwa [List.getElem?_append_left hj] at this
      · exact ih (k + l.length) _ a' w hS (fun j hj => by
          have := hl (l.length + j) (by omega)
          rw [List.getElem?_append_right (by omega), Nat.add_sub_cancel_left] at this
          rw [this, Nat.add_assoc]) (by omega) i2 hB.2 h'
    | inr o =>
      simp only [flatM, List.length_cons] at hl hk ⊢
      simp only [mixB, Bool.and_eq_true, decide_eq_true_eq] at hB
      have h0 : ops[k]? = some o := by simpa using (hl 0 (by simp)).symm
      have hrk : k ∈ Region.ready .any ops listed := by rw [hB.1]; exact List.mem_singleton.2 rfl
      refine ⟨by rw [hB.1]; simp, fun i hi => ?_⟩
      rw [hB.1] at hi
      obtain rfl : i = k := by simpa using hi
      refine ⟨by omega, ?_⟩
      have hw : wpOp P ops (mixPost S Q (wpMix P ops S Q Lq r)) i (fun a' w' => S w' ∧ wpMix P ops S Q Lq r a' w') a w := by
        unfold wpOp; simp only [h0]; exact h
      have hw2 : wpOp P ops Q i (fun a' w' => S w' ∧ wpMix P ops S Q Lq r a' w') a w := by
        unfold wpOp at hw ⊢
        simp only [h0] at hw ⊢
        split
        · rename_i hwt
          rw [if_pos hwt] at hw
          rcases hw with hw | ⟨h1, h2⟩
          · refine .inl ?_
            unfold Oper.wp at hw ⊢
            generalize (execOp a.eval o).run P w = res at *
            cases res with
            | ok nx w' => cases nx <;> exact hw
            | halt x w' => cases x <;> exact hw
          · exact .inr ⟨h1, h2⟩
        · rename_i hwt; rw [if_neg hwt] at hw; exact hw
      refine wpOp_mono (fun a' w' h' => ⟨h'.1, ih (i + 1) _ a' w' h'.1 (fun j hj => ?_) (by omega) (inv.set hrk (by omega)) hB.2 h'.2⟩) hw2
      have := hl (j + 1) (by omega)
      simpa [Nat.add_assoc, Nat.add_comm 1 j] using this

end

/-- The pieces, by how many only look ahead of each call. -/
def cutM : List Nat → List Oper → List (List Oper ⊕ Oper)
  | [], l => [.inl l]
  | k :: ks, l => match l.drop k with
    | [] => [.inl l]
    | o :: r => .inl (l.take k) :: .inr o :: cutM ks r
theorem flat_cut (ks : List Nat) : ∀ l : List Oper, flatM (cutM ks l) = l := by
  induction ks with
  | nil => intro l; simp [cutM, flatM]
  | cons k ks ih =>
    intro l
    unfold cutM
    split
    · simp [flatM]
    · rename_i o r hd
      simp only [flatM, ih]
      rw [← hd, List.take_append_drop]

section
variable {P : Program} {S : World → Prop} {Q : Exit → Act → World → Prop}
theorem wp_region_mix (ks : List Nat) {id : Nat} {a : Act} {w : World} {l : List Oper} (hm : P.follows .mixedOrders = true)
    (hB : (Region.noSelect l.toArray && mixB l.toArray (fun s => decide (Region.ready .any l.toArray s = [])) (cutM ks l) 0 (Array.replicate l.toArray.size false)) = true) (hS : S { w with drawn := w.drawn + 1 })
    (hQ : ∀ d v c a w, Q (.panic c) (Act.put a d v) w → Q (.panic c) a w)
    (h : wpMix P l.toArray S Q (fun a w => Q .normal a w) (cutM ks l) a { w with drawn := w.drawn + 1 }) : (Code.region id l.toArray true).wp P Q a w := by
  simp only [Bool.and_eq_true] at hB
  obtain ⟨hsel, hB⟩ := hB
  have inv0 : HeadInv .any l.toArray l.toArray.size (Array.replicate l.toArray.size false) :=
    ⟨by simp, fun j oj _ hl => (by rw [getD_replicate_false] at hl; cases hl), fun t h1 h2 => absurd h2 (by omega)⟩
  have H := headM_mix (P := P) (S := S) (Q := Q) (n := l.toArray.size) (L := fun s a w => Region.ready .any l.toArray s = [] ∧ Q .normal a w) (Lq := fun a w => Q .normal a w) (T := fun s => decide (Region.ready .any l.toArray s = [])) hsel hQ
    (fun listed _ _ _ _ j hj => by
      obtain ⟨_, oj, hoj, _⟩ := mem_ready.1 hj
      exact (Array.getElem?_eq_some_iff.1 hoj).1)
    (fun listed a w hL j hj => by rw [hL.1] at hj; cases hj) (fun listed a w hT hL => ⟨of_decide_eq_true hT, hL⟩) (cutM ks l) 0 _ a _ hS (fun j _ => by rw [flat_cut]; simp) (by rw [flat_cut]; simp) inv0 hB h
  refine wp_region_any hm ?_
  have := any_of_headM (P := P) (S := S) (Q := Q) (g := 0) (fun listed a' W hL => (show wpAny P .any l.toArray Q 0 listed a' W from hL)) _ _ _ _ H
  rw [flat_cut] at this
  simpa using this

theorem wp_region_mix_tail (ks : List Nat) (n : Nat) {id : Nat} {a : Act} {w : World} {l : List Oper} (hm : P.follows .mixedOrders = true)
    (hB : (Region.noSelect l.toArray && (decide (n < l.length) && (Region.sinkB .any l.toArray n && (Region.chainB .any l.toArray n && mixB l.toArray (fun s => Region.seqB .any l.toArray (l.length - n) n s) (cutM ks (l.take n)) 0 (Array.replicate l.toArray.size false))))) = true)
    (hS : S { w with drawn := w.drawn + 1 }) (hQ : ∀ d v c a w, Q (.panic c) (Act.put a d v) w → Q (.panic c) a w)
    (h : wpMix P l.toArray S Q (fun a w => wpList P l.toArray Q (l.drop n) a w) (cutM ks (l.take n)) a { w with drawn := w.drawn + 1 }) : (Code.region id l.toArray true).wp P Q a w := by
  simp only [Bool.and_eq_true, decide_eq_true_eq] at hB
  obtain ⟨hsel, hn, hs, hc, hB⟩ := hB
  have hn' : n < l.toArray.size := by simpa using hn
  have hdl : (l.drop n).length = l.length - n := by simp
  have htl : (l.take n).length = n := by simp; omega
  have inv0 : HeadInv .any l.toArray n (Array.replicate l.toArray.size false) :=
    ⟨by simp, fun j oj _ hl => (by rw [getD_replicate_false] at hl; cases hl), fun t _ ht => getD_in (by simpa using ht) (getD_replicate_false _ _)⟩
  have H := headM_mix (P := P) (S := S) (Q := Q) (n := n) (L := fun s a w => Region.seqB .any l.toArray (l.length - n) n s = true ∧ wpList P l.toArray Q (l.drop n) a w) (Lq := fun a w => wpList P l.toArray Q (l.drop n) a w) (T := fun s => Region.seqB .any l.toArray (l.length - n) n s) hsel hQ
    (fun listed inv k hk hun j hj => Nat.lt_of_not_le fun h => tail_waits hs hc hn' inv _ k rfl hk hun j h hj)
    (fun listed a w hL => seqB_ready hL.1) (fun listed a w hT hL => ⟨hT, hL⟩) (cutM ks (l.take n)) 0 _ a _ hS (fun j hj => by
      rw [flat_cut] at hj ⊢
      rw [htl] at hj
      simp [hj]) (by rw [flat_cut, htl]; omega) inv0 hB h
  refine wp_region_any hm ?_
  have := any_of_headM (P := P) (S := S) (Q := Q) (g := l.length - n) (fun listed a' W hL => by
    have := wpAny_of_seq (md := .any) (P := P) (Q' := Q) (l.drop n) n listed a' W (fun j => by simp [List.getElem?_drop]) (by rw [hdl]; exact hL.1) hL.2
    rwa [hdl] at this) _ _ _ _ H
  rw [flat_cut, htl, show n + (l.length - n) = l.toArray.size by simp; omega] at this
  exact this
end

end Go.Proofs.Ytjichaeegheacaa
