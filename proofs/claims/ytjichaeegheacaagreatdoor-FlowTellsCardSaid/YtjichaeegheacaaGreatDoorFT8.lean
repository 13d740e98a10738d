/-
  Tail Mix Tree Kit Awake10 Count
-/
import Derived.Test.YtjichaeegheacaaGreatDoorFT2
import Derived.StillTail
import Derived.OrdersHeld
import Derived.Deep.MidRow
import Derived.Test.YtjichaeegheacaaGreatDoorFT4
import Derived.Deep.QuietTactic
import Derived.Test.YtjichaeegheacaaGreatDoorFT5
import Derived.Test.YtjichaeegheacaaGreatDoorFT7

/- Tail -/
/-
  A region that draws its order, whose first n operations are quiet in a class of worlds (they read, or call what makes memory), and whose last ones follow in one order: one walk serves every order.
-/
namespace Go.Proofs.YtjichaeegheacaaGreatDoor
open Go Go.RowKit

section
variable {P : Program} {ops : Array Oper} {C : World → Prop}

/-- f quiet operations in whatever order, all ahead of number n; then L. -/
def headQ (P : Program) (ops : Array Oper) (C : World → Prop) (n : Nat) (L : Array Bool → Act → Prop) : Nat → Array Bool → Act → Prop
  | 0, listed, a => L listed a
  | f + 1, listed, a => Region.ready .any ops listed ≠ [] ∧ ∀ i ∈ Region.ready .any ops listed, i < n ∧ qOp P ops C i (headQ P ops C n L f (listed.setIfInBounds i true)) a

theorem any_of_headQ {n g : Nat} {L : Array Bool → Act → Prop} {Q' : Exit → Act → World → Prop} (hL : ∀ listed a w, C w → L listed a → wpAny P .any ops Q' g listed a w) :
    ∀ (f : Nat) (listed : Array Bool) (a : Act) (w : World), C w → headQ P ops C n L f listed a → wpAny P .any ops Q' (f + g) listed a w := by
  intro f
  induction f with
  | zero => intro listed a w hC h; rw [Nat.zero_add]; exact hL _ _ _ hC h
  | succ f ih =>
    intro listed a w hC h
    rw [Nat.add_right_comm]
    exact ⟨fun h0 => absurd h0 h.1, fun i hi => wpOp_of_qOp hC (fun a' w' hw' h' => ih _ a' w' hw' h') (h.2 i hi).2⟩

theorem headQ_first {n i : Nat} {oi : Oper} {v : Value} {L : Array Bool → Act → Prop} (hi : ops[i]? = some oi) (hsel : ∀ (j : Nat) (o : Oper) cs b, ops[j]? = some o → o.op ≠ .select cs b)
    (hs : Region.sinkB .any ops n = true) (hc : Region.chainB .any ops n = true) (hn : n < ops.size) (hin : i < n) (hdone : ∀ listed a, L listed a → ∀ j ∈ Region.ready .any ops listed, n ≤ j) :
    ∀ (f : Nat) (listed : Array Bool) (a : Act), HeadInv .any ops n listed →
      (∀ j oj, ops[j]? = some oj → j ≠ i → listed.getD j true = false → (∀ e ∈ oj.after, Region.binds .any e = true → e.on ≠ i) → oi.apart ops oj = true) →
      i ∈ Region.ready .any ops listed → YieldsIn P ops C oi v a →
      headQ P ops C n L f (listed.setIfInBounds i true) (a.put oi.dst v) → headQ P ops C n L (f + 1) listed a := by
  intro f
  induction f with
  | zero =>
    intro listed a inv _ hr hy H
    have hun := (mem_ready.1 hr).1
    refine ⟨List.ne_nil_of_mem hr, fun j hj => ?_⟩
    have hjn : j < n := Nat.lt_of_not_le fun h => tail_waits hs hc hn inv _ i rfl hin hun j h hj
    refine ⟨hjn, ?_⟩
    by_cases hji : j = i
    · subst hji; exact hy.qOp hi H
    · exact absurd (hdone _ _ H j (ready_mono hj hji)) (by omega)
  | succ f ih =>
    intro listed a inv hfree hr hy H
    have hun := (mem_ready.1 hr).1
    refine ⟨List.ne_nil_of_mem hr, fun j hj => ?_⟩
    have hjn : j < n := Nat.lt_of_not_le fun h => tail_waits hs hc hn inv _ i rfl hin hun j h hj
    refine ⟨hjn, ?_⟩
    by_cases hji : j = i
    · subst hji; exact hy.qOp hi H
    · have h1 := (H.2 j (ready_mono hj hji)).2
      obtain ⟨hjun, oj, hoj, hall⟩ := mem_ready.1 hj
      have hnot : ∀ e ∈ oj.after, Region.binds .any e = true → e.on ≠ i := fun e he hb heq => by
        have h1 := hall e he hb
        rw [heq, getD_both hun] at h1
        cases h1
      have h2 := qOp_put hoj (hfree j oj hoj hji hjun hnot) (fun cs b => hsel i oi cs b hi) (fun cs b => hsel j oj cs b hoj) hy h1
      refine qOp_mono (fun a' h3 => ih (listed.setIfInBounds j true) a' (inv.set hj hjn) (fun k ok hk hki hku hno => ?_) (ready_mono hr (Ne.symm hji)) h3.1 ?_) h2
      · refine hfree k ok hk hki ?_ hno
        by_cases hjk : j = k
        · subst hjk; exact hjun
        · rw [getD_set_ne true hjk] at hku; exact hku
      · rw [Array.setIfInBounds_comm _ _ hji]
        exact h3.2

theorem headQ_lex {n g : Nat} {Lq : Act → Prop} (hsel : Region.noSelect ops = true) (hs : Region.sinkB .any ops n = true) (hc : Region.chainB .any ops n = true) (hn : n < ops.size) (l : List Oper) :
    ∀ (k : Nat) (listed : Array Bool) (a : Act), (∀ j, j < l.length → l[j]? = ops[k + j]?) → k + l.length = n → HeadInv .any ops n listed →
    Region.lexHead .any ops g l.length k listed = true → wpQuiet P ops C Lq l a →
    headQ P ops C n (fun listed' a' => Region.seqB .any ops g n listed' = true ∧ Lq a') l.length listed a := by
  induction l with
  | nil =>
    intro k listed a hl hk inv hB h
    have : k = n := by simpa using hk
    subst this
    exact ⟨by simpa [Region.lexHead] using hB, h⟩
  | cons o l ih =>
    intro k listed a hl hk inv hB h
    have h0 : ops[k]? = some o := by simpa using (hl 0 (by simp)).symm
    simp only [List.length_cons, Region.lexHead, Bool.and_eq_true] at hB hk
    obtain ⟨⟨hr, hf⟩, hB'⟩ := hB
    have hr' : k ∈ Region.ready .any ops listed := by simpa using hr
    have hst : qOp P ops C k (wpQuiet P ops C Lq l) a := by unfold qOp; simp only [h0]; exact h
    obtain ⟨v, hy, hK⟩ := yieldsIn_of_qOp h0 hst
    exact headQ_first h0 (Region.noSelect_spec hsel) hs hc hn (by omega) (fun listed' a' hL => seqB_ready hL.1) l.length listed a inv (Region.free_spec h0 hf) hr' hy
      (ih (k + 1) _ _ (fun j hj => by have := hl (j + 1) (by simp; omega); simpa [Nat.add_assoc, Nat.add_comm 1 j] using this) (by omega) (inv.set hr' (by omega)) hB' hK)

theorem wp_region_quiet_tail {id : Nat} {Q : Exit → Act → World → Prop} {a : Act} {w : World} {l : List Oper} (n : Nat) (hm : P.follows .mixedOrders = true) (hB : Region.lexTailB .any l.toArray n = true) (hC : C { w with drawn := w.drawn + 1 })
    (h : wpQuiet P l.toArray C (fun a' => ∀ W, C W → wpList P l.toArray Q (l.drop n) a' W) (l.take n) a) : (Code.region id l.toArray true).wp P Q a w := by
  simp only [Region.lexTailB, Bool.and_eq_true, decide_eq_true_eq] at hB
  obtain ⟨⟨⟨⟨hsel, hn⟩, hs⟩, hc⟩, hlex⟩ := hB
  have hn' : n < l.length := by simpa using hn
  have htl : (l.take n).length = n := by simp; omega
  have hdl : (l.drop n).length = l.toArray.size - n := by simp
  have inv0 : HeadInv .any l.toArray n (Array.replicate l.toArray.size false) :=
    ⟨by simp, fun j oj _ hl => (by rw [getD_replicate_false] at hl; cases hl), fun t _ ht => getD_in (by simpa using ht) (getD_replicate_false _ _)⟩
  have H := headQ_lex (g := l.toArray.size - n) hsel hs hc hn (l.take n) 0 _ a (fun j hj => by
    have hj' : j < n := by rw [htl] at hj; exact hj
    simp [hj']) (by simpa using htl) inv0 (by rw [htl]; exact hlex) h
  refine wp_region_any hm ?_
  have := any_of_headQ (Q' := Q) (g := l.toArray.size - n) (fun listed a' W hW hL => by
    have := wpAny_of_seq (md := .any) (Q' := Q) (l.drop n) n listed a' W (fun j => by simp [List.getElem?_drop]) (by rw [hdl]; exact hL.1) (hL.2 W hW)
    rwa [hdl] at this) _ _ _ _ hC H
  rw [htl, show n + (l.toArray.size - n) = l.toArray.size by omega] at this
  exact this

theorem wpQuiet_weaken {Q Q' : Act → Prop} (h : ∀ a, Q a → Q' a) (l : List Oper) : ∀ a, wpQuiet P ops C Q l a → wpQuiet P ops C Q' l a := by
  induction l with
  | nil => exact fun a hh => h a hh
  | cons o l ih =>
    intro a hh
    unfold wpQuiet at hh ⊢
    split
    · rename_i hw; rw [if_pos hw] at hh; exact Oper.quiet_mono ih hh
    · rename_i hw; rw [if_neg hw] at hh; exact ih _ hh

/-- The class of my own walks: what was there is as it was. -/
theorem wp_region_fresh_tail {id : Nat} {Q : Exit → Act → World → Prop} {a : Act} {w : World} {l : List Oper} (n : Nat) (hm : P.follows .mixedOrders = true) (hB : Region.lexTailB .any l.toArray n = true)
    (h : wpQuiet P l.toArray (fun w' => ∃ p : Regrown, w' = Sort.grow (redrawn w p.d) p.os) (fun a' => ∀ W, Below w.heap.size w W → wpList P l.toArray Q (l.drop n) a' W) (l.take n) a) : (Code.region id l.toArray true).wp P Q a w := by
  refine wp_region_quiet_tail (C := fun w' => ∃ p : Regrown, w' = Sort.grow (redrawn w p.d) p.os) n hm hB (regrown_of_below ((Below.refl w.heap.size w).drew)) ?_
  revert h
  generalize l.take n = m
  intro h
  refine wpQuiet_weaken (fun a' h' W hW => h' W (below_of_grow hW)) m a h
end

end Go.Proofs.YtjichaeegheacaaGreatDoor

/- Mix -/
/-
  A region that draws its order: operations that only look (loads, sums, addresses) may be taken first, whatever calls run beside them, where a condition on the world is kept; the calls come one at a time.
-/
namespace Go.Proofs.YtjichaeegheacaaGreatDoor
open Go Go.RowKit

/-- An operation that hands back a value and never calls. -/
def looksB : Op → Bool
  | .move _ | .assign _ | .pick _ _ _ | .load _ _ | .binOp _ _ _ _ _ | .unOp _ _ _ | .fieldAddr _ _ _ | .field _ _ _ | .indexAddr _ _ _ | .index _ _ _ | .slice _ _ _ _ _ | .extract _ _ => true
  | .call c => match c.callee with
    | .builtin .len => true
    | _ => false
  | _ => false

theorem looks_value {P : Program} {o : Oper} (h : looksB o.op = true) {ρ : Operand → Value} {w w' : World} {n : Next} (hr : (execOp ρ o).run P w = .ok n w') : ∃ u, n = .value u := by
  have key2 : ∀ s : Sem Value, ((s.run P w).andThen fun a w' => Result.ok (Next.value a) w') = .ok n w' → ∃ u, n = .value u := by
    intro s hs
    cases hq : s.run P w with
    | ok u w1 => rw [hq] at hs; simp at hs; exact ⟨u, hs.1.symm⟩
    | halt x w1 => rw [hq] at hs; cases hs
  have key : ∀ s : Sem Value, ((do pure (Next.value (← s)) : Sem Next)).run P w = .ok n w' → ∃ u, n = .value u := by
    intro s hs
    rw [Sem.run_bind] at hs
    exact key2 s hs
  unfold execOp at hr
  revert h hr
  cases o.op with
  | move x => intro _ hr; simp at hr; exact ⟨_, hr.1.symm⟩
  | assign x => intro _ hr; simp at hr; exact ⟨_, hr.1.symm⟩
  | pick c a b =>
    intro _ hr
    simp only [Sem.run_bind] at hr
    cases hq : (asBool (ρ c)).run P w with
    | ok u w1 => rw [hq] at hr; simp at hr; exact ⟨_, hr.1.symm⟩
    | halt x w1 => rw [hq] at hr; cases hr
  | load t a => intro _ hr; exact key _ hr
  | binOp op t x y s => intro _ hr; exact key _ hr
  | unOp op t x => intro _ hr; exact key _ hr
  | fieldAddr s x f => intro _ hr; exact key _ hr
  | field t x f => intro _ hr; exact key _ hr
  | indexAddr t x i => intro _ hr; exact key _ hr
  | index t x i => intro _ hr; exact key _ hr
  | slice t x lo hi mx => intro _ hr; exact key _ hr
  | extract t i => intro _ hr; exact key _ hr
  | call c =>
    intro h hr
    obtain ⟨callee, args, argTypes⟩ := c
    cases callee with
    | builtin b =>
      cases b with
      | len =>
        simp only [resolve, Sem.run_bind, Sem.run_pure, Result.andThen_ok, invoke, builtin] at hr
        exact key2 _ hr
      | _ => cases h
    | _ => cases h
  | _ => intro h; cases h

section
variable {P : Program} {ops : Array Oper} {S : World → Prop} {Q : Exit → Act → World → Prop}

theorem yields_of_looks {o : Oper} {a : Act} {v : Value} (hl : looksB o.op = true) (h : YieldsIn P ops S o v a) : YieldsIf P ops S o v a := by
  rcases h with ⟨hw, hv⟩ | h
  · refine .inl ⟨hw, fun w hS => ?_⟩
    have h1 := hv w hS
    unfold Oper.quietAt at h1
    cases hr : (execOp a.eval o).run P w with
    | ok n w' =>
      obtain ⟨u, rfl⟩ := looks_value hl hr
      rw [hr] at h1
      obtain ⟨e1, e2⟩ := h1
      rw [e1, e2]
    | halt x w' => rw [hr] at h1; exact h1.elim
  · exact .inr h

/-- f operations in whatever order, all ahead of number n, the condition kept; then L. -/
def headM (P : Program) (ops : Array Oper) (S : World → Prop) (Q : Exit → Act → World → Prop) (n : Nat) (L : Array Bool → Act → World → Prop) : Nat → Array Bool → Act → World → Prop
  | 0, listed, a, w => L listed a w
  | f + 1, listed, a, w => Region.ready .any ops listed ≠ [] ∧ ∀ i ∈ Region.ready .any ops listed, i < n ∧ wpOp P ops Q i (fun a' w' => S w' ∧ headM P ops S Q n L f (listed.setIfInBounds i true) a' w') a w

theorem any_of_headM {n g : Nat} {L : Array Bool → Act → World → Prop} (hL : ∀ listed a w, L listed a w → wpAny P .any ops Q g listed a w) :
    ∀ (f : Nat) (listed : Array Bool) (a : Act) (w : World), headM P ops S Q n L f listed a w → wpAny P .any ops Q (f + g) listed a w := by
  intro f
  induction f with
  | zero => intro listed a w h; rw [Nat.zero_add]; exact hL _ _ _ h
  | succ f ih =>
    intro listed a w h
    rw [Nat.add_right_comm]
    exact ⟨fun h0 => absurd h0 h.1, fun i hi => wpOp_mono (fun a' w' h' => ih _ a' w' h'.2) (h.2 i hi).2⟩

theorem headM_first {n i : Nat} {oi : Oper} {v : Value} {L : Array Bool → Act → World → Prop} (hi : ops[i]? = some oi) (hsel : ∀ (j : Nat) (o : Oper) cs b, ops[j]? = some o → o.op ≠ .select cs b)
    (hQ : ∀ c a w, Q (.panic c) (a.put oi.dst v) w → Q (.panic c) a w)
    (hb : ∀ listed, HeadInv .any ops n listed → ∀ k, k < n → listed.getD k true = false → ∀ j ∈ Region.ready .any ops listed, j < n) (hin : i < n) (hdone : ∀ listed a w, L listed a w → ∀ j ∈ Region.ready .any ops listed, n ≤ j) :
    ∀ (f : Nat) (listed : Array Bool) (a : Act) (w : World), HeadInv .any ops n listed →
      (∀ j oj, ops[j]? = some oj → j ≠ i → listed.getD j true = false → (∀ e ∈ oj.after, Region.binds .any e = true → e.on ≠ i) → oi.apart ops oj = true) →
      i ∈ Region.ready .any ops listed → YieldsIf P ops S oi v a → S w →
      headM P ops S Q n L f (listed.setIfInBounds i true) (a.put oi.dst v) w → headM P ops S Q n L (f + 1) listed a w := by
  intro f
  induction f with
  | zero =>
    intro listed a w inv _ hr hy hS H
    have hun := (mem_ready.1 hr).1
    refine ⟨List.ne_nil_of_mem hr, fun j hj => ?_⟩
    have hjn := hb listed inv i hin hun j hj
    refine ⟨hjn, ?_⟩
    by_cases hji : j = i
    · subst hji; exact hy.wpOp hi hS ⟨hS, H⟩
    · exact absurd (hdone _ _ _ H j (ready_mono hj hji)) (by omega)
  | succ f ih =>
    intro listed a w inv hfree hr hy hS H
    have hun := (mem_ready.1 hr).1
    refine ⟨List.ne_nil_of_mem hr, fun j hj => ?_⟩
    have hjn := hb listed inv i hin hun j hj
    refine ⟨hjn, ?_⟩
    by_cases hji : j = i
    · subst hji; exact hy.wpOp hi hS ⟨hS, H⟩
    · have h1 := (H.2 j (ready_mono hj hji)).2
      obtain ⟨hjun, oj, hoj, hall⟩ := mem_ready.1 hj
      have hnot : ∀ e ∈ oj.after, Region.binds .any e = true → e.on ≠ i := fun e he hb heq => by
        have h1 := hall e he hb
        rw [heq, getD_both hun] at h1
        cases h1
      have h2 := wpOp_putIf hoj (hfree j oj hoj hji hjun hnot) (fun cs b => hsel i oi cs b hi) (fun cs b => hsel j oj cs b hoj) hQ hy h1
      refine wpOp_mono (fun a' w' h3 => ⟨h3.2.1, ih (listed.setIfInBounds j true) a' w' (inv.set hj hjn) (fun k ok hk hki hku hno => ?_) (ready_mono hr (Ne.symm hji)) h3.1 h3.2.1 ?_⟩) h2
      · refine hfree k ok hk hki ?_ hno
        by_cases hjk : j = k
        · subst hjk; exact hjun
        · rw [getD_set_ne true hjk] at hku; exact hku
      · rw [Array.setIfInBounds_comm _ _ hji]
        exact h3.2.2

/-- The post behind a call in the midst: the condition is shown anew. -/
def mixPost (S : World → Prop) (Q : Exit → Act → World → Prop) (K : Act → World → Prop) : Exit → Act → World → Prop
  | .normal, a, w => S w ∧ K a w
  | e, a, w => Q e a w

/-- The walk: pieces that only look, and single operations that may do more. -/
def wpMix (P : Program) (ops : Array Oper) (S : World → Prop) (Q : Exit → Act → World → Prop) (Lq : Act → World → Prop) : List (List Oper ⊕ Oper) → Act → World → Prop
  | [], a, w => Lq a w
  | .inl l :: r, a, w => wpQuiet P ops S (fun a' => wpMix P ops S Q Lq r a' w) l a
  | .inr o :: r, a, w => wpList P ops (mixPost S Q (wpMix P ops S Q Lq r)) [o] a w

/-- The check of the order, by Bools: from number k on, with what is listed. -/
def lookB (ops : Array Oper) : List Oper → Nat → Array Bool → Bool
  | [], _, _ => true
  | o :: l, k, listed => looksB o.op && ((Region.ready .any ops listed).contains k && (Region.free .any ops listed k && lookB ops l (k + 1) (listed.setIfInBounds k true)))
def mixB (ops : Array Oper) (T : Array Bool → Bool) : List (List Oper ⊕ Oper) → Nat → Array Bool → Bool
  | [], _, listed => T listed
  | .inl l :: r, k, listed => lookB ops l k listed && mixB ops T r (k + l.length) ((List.range' k l.length).foldl (fun s i => s.setIfInBounds i true) listed)
  | .inr _ :: r, k, listed => decide (Region.ready .any ops listed = [k]) && mixB ops T r (k + 1) (listed.setIfInBounds k true)
def flatM : List (List Oper ⊕ Oper) → List Oper
  | [] => []
  | .inl l :: r => l ++ flatM r
  | .inr o :: r => o :: flatM r

theorem ready_inv {n k : Nat} {listed : Array Bool} (inv : HeadInv .any ops n listed) (hr : k ∈ Region.ready .any ops listed) (hk : k < n) : HeadInv .any ops n (listed.setIfInBounds k true) := inv.set hr hk

theorem headM_looks {n : Nat} {L : Array Bool → Act → World → Prop} (hsel : Region.noSelect ops = true) (hQ : ∀ d v c a w, Q (.panic c) (Act.put a d v) w → Q (.panic c) a w)
    (hb : ∀ listed, HeadInv .any ops n listed → ∀ k, k < n → listed.getD k true = false → ∀ j ∈ Region.ready .any ops listed, j < n) (hdone : ∀ listed a w, L listed a w → ∀ j ∈ Region.ready .any ops listed, n ≤ j)
    (w : World) (hS : S w) (m : Nat) (R : Act → Prop) (l : List Oper) :
    ∀ (k : Nat) (listed : Array Bool) (a : Act), (∀ j, j < l.length → l[j]? = ops[k + j]?) → k + l.length ≤ n → HeadInv .any ops n listed → lookB ops l k listed = true →
    (HeadInv .any ops n ((List.range' k l.length).foldl (fun s i => s.setIfInBounds i true) listed) → ∀ a', R a' → headM P ops S Q n L m ((List.range' k l.length).foldl (fun s i => s.setIfInBounds i true) listed) a' w) →
    wpQuiet P ops S R l a → headM P ops S Q n L (l.length + m) listed a w := by
  induction l with
  | nil =>
    intro k listed a _ _ inv _ hR h
    rw [List.length_nil, Nat.zero_add]
    exact hR inv a h
  | cons o l ih =>
    intro k listed a hl hk inv hB hR h
    have h0 : ops[k]? = some o := by simpa using (hl 0 (by simp)).symm
    simp only [lookB, List.length_cons, Bool.and_eq_true] at hB hk
    obtain ⟨hlk, hr, hf, hB'⟩ := hB
    have hr' : k ∈ Region.ready .any ops listed := by simpa using hr
    have hst : qOp P ops S k (wpQuiet P ops S R l) a := by unfold qOp; simp only [h0]; exact h
    obtain ⟨v, hy, hK⟩ := yieldsIn_of_qOp h0 hst
    rw [List.length_cons, Nat.add_right_comm]
    refine headM_first h0 (Region.noSelect_spec hsel) (hQ o.dst v) hb (by omega) hdone _ listed a w inv (Region.free_spec h0 hf) hr' (yields_of_looks hlk hy) hS ?_
    exact ih (k + 1) _ _ (fun j hj => by have := hl (j + 1) (by simp; omega); simpa [Nat.add_assoc, Nat.add_comm 1 j] using this) (by omega) (inv.set hr' (by omega)) hB' (fun i2 => hR i2) hK

theorem headM_mix {n : Nat} {L : Array Bool → Act → World → Prop} {Lq : Act → World → Prop} {T : Array Bool → Bool} (hsel : Region.noSelect ops = true) (hQ : ∀ d v c a w, Q (.panic c) (Act.put a d v) w → Q (.panic c) a w)
    (hb : ∀ listed, HeadInv .any ops n listed → ∀ k, k < n → listed.getD k true = false → ∀ j ∈ Region.ready .any ops listed, j < n) (hdone : ∀ listed a w, L listed a w → ∀ j ∈ Region.ready .any ops listed, n ≤ j)
    (hL : ∀ listed a w, T listed = true → Lq a w → L listed a w) (segs : List (List Oper ⊕ Oper)) :
    ∀ (k : Nat) (listed : Array Bool) (a : Act) (w : World), S w → (∀ j, j < (flatM segs).length → (flatM segs)[j]? = ops[k + j]?) → k + (flatM segs).length ≤ n → HeadInv .any ops n listed → mixB ops T segs k listed = true →
    wpMix P ops S Q Lq segs a w → headM P ops S Q n L (flatM segs).length listed a w := by
  induction segs with
  | nil => intro k listed a w _ _ _ _ hB h; exact hL _ _ _ hB h
  | cons s r ih =>
    intro k listed a w hS hl hk inv hB h
    cases s with
    | inl l =>
      simp only [flatM, List.length_append] at hl hk ⊢
      simp only [mixB, Bool.and_eq_true] at hB
      refine headM_looks hsel hQ hb hdone w hS _ _ l k listed a (fun j hj => ?_) (by omega) inv hB.1 (fun i2 a' h' => ?_) h
      · have := hl j (by omega)
        rwa [List.getElem?_append_left hj] at this
      · exact ih (k + l.length) _ a' w hS (fun j hj => by
          have := hl (l.length + j) (by omega)
          rw [List.getElem?_append_right (by omega), Nat.add_sub_cancel_left] at this
          rw [this, Nat.add_assoc]) (by omega) i2 hB.2 h'
    | inr o =>
      simp only [flatM, List.length_cons] at hl hk ⊢
      simp only [mixB, Bool.and_eq_true, decide_eq_true_eq] at hB
      have h0 : ops[k]? = some o := by simpa using (hl 0 (by simp)).symm
      have hrk : k ∈ Region.ready .any ops listed := by rw [hB.1]; exact List.mem_singleton.2 rfl
      refine ⟨by rw [hB.1]; simp, fun i hi => ?_⟩
      rw [hB.1] at hi
      obtain rfl : i = k := by simpa using hi
      refine ⟨by omega, ?_⟩
      have hw : wpOp P ops (mixPost S Q (wpMix P ops S Q Lq r)) i (fun a' w' => S w' ∧ wpMix P ops S Q Lq r a' w') a w := by
        unfold wpOp; simp only [h0]; exact h
      have hw2 : wpOp P ops Q i (fun a' w' => S w' ∧ wpMix P ops S Q Lq r a' w') a w := by
        unfold wpOp at hw ⊢
        simp only [h0] at hw ⊢
        split
        · rename_i hwt
          rw [if_pos hwt] at hw
          rcases hw with hw | ⟨h1, h2⟩
          · refine .inl ?_
            unfold Oper.wp at hw ⊢
            generalize (execOp a.eval o).run P w = res at *
            cases res with
            | ok nx w' => cases nx <;> exact hw
            | halt x w' => cases x <;> exact hw
          · exact .inr ⟨h1, h2⟩
        · rename_i hwt; rw [if_neg hwt] at hw; exact hw
      refine wpOp_mono (fun a' w' h' => ⟨h'.1, ih (i + 1) _ a' w' h'.1 (fun j hj => ?_) (by omega) (inv.set hrk (by omega)) hB.2 h'.2⟩) hw2
      have := hl (j + 1) (by omega)
      simpa [Nat.add_assoc, Nat.add_comm 1 j] using this

end

/-- The pieces, by how many only look ahead of each call. -/
def cutM : List Nat → List Oper → List (List Oper ⊕ Oper)
  | [], l => [.inl l]
  | k :: ks, l => match l.drop k with
    | [] => [.inl l]
    | o :: r => .inl (l.take k) :: .inr o :: cutM ks r
theorem flat_cut (ks : List Nat) : ∀ l : List Oper, flatM (cutM ks l) = l := by
  induction ks with
  | nil => intro l; simp [cutM, flatM]
  | cons k ks ih =>
    intro l
    unfold cutM
    split
    · simp [flatM]
    · rename_i o r hd
      simp only [flatM, ih]
      rw [← hd, List.take_append_drop]

section
variable {P : Program} {S : World → Prop} {Q : Exit → Act → World → Prop}
theorem wp_region_mix (ks : List Nat) {id : Nat} {a : Act} {w : World} {l : List Oper} (hm : P.follows .mixedOrders = true)
    (hB : (Region.noSelect l.toArray && mixB l.toArray (fun s => decide (Region.ready .any l.toArray s = [])) (cutM ks l) 0 (Array.replicate l.toArray.size false)) = true) (hS : S { w with drawn := w.drawn + 1 })
    (hQ : ∀ d v c a w, Q (.panic c) (Act.put a d v) w → Q (.panic c) a w)
    (h : wpMix P l.toArray S Q (fun a w => Q .normal a w) (cutM ks l) a { w with drawn := w.drawn + 1 }) : (Code.region id l.toArray true).wp P Q a w := by
  simp only [Bool.and_eq_true] at hB
  obtain ⟨hsel, hB⟩ := hB
  have inv0 : HeadInv .any l.toArray l.toArray.size (Array.replicate l.toArray.size false) :=
    ⟨by simp, fun j oj _ hl => (by rw [getD_replicate_false] at hl; cases hl), fun t h1 h2 => absurd h2 (by omega)⟩
  have H := headM_mix (P := P) (S := S) (Q := Q) (n := l.toArray.size) (L := fun s a w => Region.ready .any l.toArray s = [] ∧ Q .normal a w) (Lq := fun a w => Q .normal a w) (T := fun s => decide (Region.ready .any l.toArray s = [])) hsel hQ
    (fun listed _ _ _ _ j hj => by
      obtain ⟨_, oj, hoj, _⟩ := mem_ready.1 hj
      exact (Array.getElem?_eq_some_iff.1 hoj).1)
    (fun listed a w hL j hj => by rw [hL.1] at hj; cases hj) (fun listed a w hT hL => ⟨of_decide_eq_true hT, hL⟩) (cutM ks l) 0 _ a _ hS (fun j _ => by rw [flat_cut]; simp) (by rw [flat_cut]; simp) inv0 hB h
  refine wp_region_any hm ?_
  have := any_of_headM (P := P) (S := S) (Q := Q) (g := 0) (fun listed a' W hL => (show wpAny P .any l.toArray Q 0 listed a' W from hL)) _ _ _ _ H
  rw [flat_cut] at this
  simpa using this

theorem wp_region_mix_tail (ks : List Nat) (n : Nat) {id : Nat} {a : Act} {w : World} {l : List Oper} (hm : P.follows .mixedOrders = true)
    (hB : (Region.noSelect l.toArray && (decide (n < l.length) && (Region.sinkB .any l.toArray n && (Region.chainB .any l.toArray n && mixB l.toArray (fun s => Region.seqB .any l.toArray (l.length - n) n s) (cutM ks (l.take n)) 0 (Array.replicate l.toArray.size false))))) = true)
    (hS : S { w with drawn := w.drawn + 1 }) (hQ : ∀ d v c a w, Q (.panic c) (Act.put a d v) w → Q (.panic c) a w)
    (h : wpMix P l.toArray S Q (fun a w => wpList P l.toArray Q (l.drop n) a w) (cutM ks (l.take n)) a { w with drawn := w.drawn + 1 }) : (Code.region id l.toArray true).wp P Q a w := by
  simp only [Bool.and_eq_true, decide_eq_true_eq] at hB
  obtain ⟨hsel, hn, hs, hc, hB⟩ := hB
  have hn' : n < l.toArray.size := by simpa using hn
  have hdl : (l.drop n).length = l.length - n := by simp
  have htl : (l.take n).length = n := by simp; omega
  have inv0 : HeadInv .any l.toArray n (Array.replicate l.toArray.size false) :=
    ⟨by simp, fun j oj _ hl => (by rw [getD_replicate_false] at hl; cases hl), fun t _ ht => getD_in (by simpa using ht) (getD_replicate_false _ _)⟩
  have H := headM_mix (P := P) (S := S) (Q := Q) (n := n) (L := fun s a w => Region.seqB .any l.toArray (l.length - n) n s = true ∧ wpList P l.toArray Q (l.drop n) a w) (Lq := fun a w => wpList P l.toArray Q (l.drop n) a w) (T := fun s => Region.seqB .any l.toArray (l.length - n) n s) hsel hQ
    (fun listed inv k hk hun j hj => Nat.lt_of_not_le fun h => tail_waits hs hc hn' inv _ k rfl hk hun j h hj)
    (fun listed a w hL => seqB_ready hL.1) (fun listed a w hT hL => ⟨hT, hL⟩) (cutM ks (l.take n)) 0 _ a _ hS (fun j hj => by
      rw [flat_cut] at hj ⊢
      rw [htl] at hj
      simp [hj]) (by rw [flat_cut, htl]; omega) inv0 hB h
  refine wp_region_any hm ?_
  have := any_of_headM (P := P) (S := S) (Q := Q) (g := l.length - n) (fun listed a' W hL => by
    have := wpAny_of_seq (md := .any) (P := P) (Q' := Q) (l.drop n) n listed a' W (fun j => by simp [List.getElem?_drop]) (by rw [hdl]; exact hL.1) hL.2
    rwa [hdl] at this) _ _ _ _ H
  rw [flat_cut, htl, show n + (l.length - n) = l.toArray.size by simp; omega] at this
  exact this
end

end Go.Proofs.YtjichaeegheacaaGreatDoor

/- Tree -/
/-
  A region that draws its order, walked along a tree: looks first; one call at a time; two where either may come up.
-/
namespace Go.Proofs.YtjichaeegheacaaGreatDoor
open Go Go.RowKit

inductive MT where
  | done : MT
  | look (l : List Nat) (t : MT) : MT
  | one (i : Nat) (t : MT) : MT
  | two (i : Nat) (t : MT) (j : Nat) (u : MT) : MT
def MT.deep : MT → Nat
  | .done => 0
  | .look l t => l.length + t.deep
  | .one _ t => t.deep + 1
  | .two _ t _ _ => t.deep + 1
def stepT (P : Program) (ops : Array Oper) (S : World → Prop) (Q : Exit → Act → World → Prop) (i : Nat) (K : Act → World → Prop) (a : Act) (w : World) : Prop :=
  match ops[i]? with
  | some o => wpList P ops (mixPost S Q K) [o] a w
  | none => False
def wpTree (P : Program) (ops : Array Oper) (S : World → Prop) (Q : Exit → Act → World → Prop) (Lq : Act → World → Prop) : MT → Act → World → Prop
  | .done, a, w => Lq a w
  | .look l t, a, w => wpQuiet P ops S (fun a' => wpTree P ops S Q Lq t a' w) (l.filterMap fun i => ops[i]?) a
  | .one i t, a, w => stepT P ops S Q i (wpTree P ops S Q Lq t) a w
  | .two i t j u, a, w => stepT P ops S Q i (wpTree P ops S Q Lq t) a w ∧ stepT P ops S Q j (wpTree P ops S Q Lq u) a w
def lookI (ops : Array Oper) : List Nat → Array Bool → Bool
  | [], _ => true
  | i :: l, listed => (match ops[i]? with | some o => looksB o.op | none => false) && ((Region.ready .any ops listed).contains i && (Region.free .any ops listed i && lookI ops l (listed.setIfInBounds i true)))
def treeB (ops : Array Oper) (n : Nat) (T : Array Bool → Bool) : MT → Array Bool → Bool
  | .done, listed => T listed
  | .look l t, listed => l.all (fun i => decide (i < n)) && (lookI ops l listed && treeB ops n T t (l.foldl (fun s i => s.setIfInBounds i true) listed))
  | .one i t, listed => decide (i < n) && (decide (Region.ready .any ops listed = [i]) && treeB ops n T t (listed.setIfInBounds i true))
  | .two i t j u, listed => decide (i < n ∧ j < n ∧ t.deep = u.deep) && (decide (Region.ready .any ops listed = [i, j]) && (treeB ops n T t (listed.setIfInBounds i true) && treeB ops n T u (listed.setIfInBounds j true)))

section
variable {P : Program} {ops : Array Oper} {S : World → Prop} {Q : Exit → Act → World → Prop}

theorem wpOp_of_step {i : Nat} {K K' : Act → World → Prop} {a : Act} {w : World} (h : stepT P ops S Q i K a w) (hK : ∀ a w, S w → K a w → K' a w) : wpOp P ops Q i (fun a' w' => S w' ∧ K' a' w') a w := by
  unfold stepT at h
  cases h0 : ops[i]? with
  | none => rw [h0] at h; exact h.elim
  | some o =>
    simp only [h0] at h
    have hw : wpOp P ops (mixPost S Q K) i (fun a' w' => S w' ∧ K a' w') a w := by
      unfold wpOp; simp only [h0]; exact h
    have hw2 : wpOp P ops Q i (fun a' w' => S w' ∧ K a' w') a w := by
      unfold wpOp at hw ⊢
      simp only [h0] at hw ⊢
      split
      · rename_i hwt
        rw [if_pos hwt] at hw
        rcases hw with hw | ⟨h1, h2⟩
        · refine .inl ?_
          unfold Oper.wp at hw ⊢
          generalize (execOp a.eval o).run P w = res at *
          cases res with
          | ok nx w' => cases nx <;> exact hw
          | halt x w' => cases x <;> exact hw
        · exact .inr ⟨h1, h2⟩
      · rename_i hwt; rw [if_neg hwt] at hw; exact hw
    exact wpOp_mono (fun a' w' h' => ⟨h'.1, hK _ _ h'.1 h'.2⟩) hw2

theorem headM_lookI {n : Nat} {L : Array Bool → Act → World → Prop} (hsel : Region.noSelect ops = true) (hQ : ∀ d v c a w, Q (.panic c) (Act.put a d v) w → Q (.panic c) a w)
    (hb : ∀ listed, HeadInv .any ops n listed → ∀ k, k < n → listed.getD k true = false → ∀ j ∈ Region.ready .any ops listed, j < n) (hdone : ∀ listed a w, L listed a w → ∀ j ∈ Region.ready .any ops listed, n ≤ j)
    (w : World) (hS : S w) (m : Nat) (R : Act → Prop) (l : List Nat) :
    ∀ (listed : Array Bool) (a : Act), (∀ i ∈ l, i < n) → HeadInv .any ops n listed → lookI ops l listed = true →
    (HeadInv .any ops n (l.foldl (fun s i => s.setIfInBounds i true) listed) → ∀ a', R a' → headM P ops S Q n L m (l.foldl (fun s i => s.setIfInBounds i true) listed) a' w) →
    wpQuiet P ops S R (l.filterMap fun i => ops[i]?) a → headM P ops S Q n L (l.length + m) listed a w := by
  induction l with
  | nil =>
    intro listed a _ inv _ hR h
    rw [List.length_nil, Nat.zero_add]
    exact hR inv a h
  | cons k l ih =>
    intro listed a hl inv hB hR h
    simp only [lookI, Bool.and_eq_true] at hB
    obtain ⟨hlk, hr, hf, hB'⟩ := hB
    cases h0 : ops[k]? with
    | none => rw [h0] at hlk; cases hlk
    | some o =>
      rw [h0] at hlk
      rw [List.filterMap_cons_some h0] at h
      have hr' : k ∈ Region.ready .any ops listed := by simpa using hr
      have hst : qOp P ops S k (wpQuiet P ops S R (l.filterMap fun i => ops[i]?)) a := by unfold qOp; simp only [h0]; exact h
      obtain ⟨v, hy, hK⟩ := yieldsIn_of_qOp h0 hst
      rw [List.length_cons, Nat.add_right_comm]
      have hkn := hl k (List.mem_cons_self ..)
      refine headM_first h0 (Region.noSelect_spec hsel) (hQ o.dst v) hb hkn hdone _ listed a w inv (Region.free_spec h0 hf) hr' (yields_of_looks hlk hy) hS ?_
      exact ih _ _ (fun i hi => hl i (List.mem_cons_of_mem _ hi)) (inv.set hr' hkn) hB' (fun i2 => hR i2) hK

theorem headM_tree {n : Nat} {L : Array Bool → Act → World → Prop} {Lq : Act → World → Prop} {T : Array Bool → Bool} (hsel : Region.noSelect ops = true) (hQ : ∀ d v c a w, Q (.panic c) (Act.put a d v) w → Q (.panic c) a w)
    (hb : ∀ listed, HeadInv .any ops n listed → ∀ k, k < n → listed.getD k true = false → ∀ j ∈ Region.ready .any ops listed, j < n) (hdone : ∀ listed a w, L listed a w → ∀ j ∈ Region.ready .any ops listed, n ≤ j)
    (hL : ∀ listed a w, T listed = true → Lq a w → L listed a w) (t : MT) :
    ∀ (listed : Array Bool) (a : Act) (w : World), S w → HeadInv .any ops n listed → treeB ops n T t listed = true → wpTree P ops S Q Lq t a w → headM P ops S Q n L t.deep listed a w := by
  induction t with
  | done => intro listed a w _ _ hB h; exact hL _ _ _ hB h
  | look l t ih =>
    intro listed a w hS inv hB h
    simp only [treeB, Bool.and_eq_true, List.all_eq_true, decide_eq_true_eq] at hB
    exact headM_lookI hsel hQ hb hdone w hS _ _ l listed a hB.1 inv hB.2.1 (fun i2 a' h' => ih _ a' w hS i2 hB.2.2 h') h
  | one i t ih =>
    intro listed a w hS inv hB h
    simp only [treeB, Bool.and_eq_true, decide_eq_true_eq] at hB
    obtain ⟨hin, hr, hB'⟩ := hB
    have hrk : i ∈ Region.ready .any ops listed := by rw [hr]; exact List.mem_singleton.2 rfl
    refine ⟨List.ne_nil_of_mem hrk, fun j hj => ?_⟩
    rw [hr] at hj
    obtain rfl : j = i := by simpa using hj
    exact ⟨hin, wpOp_of_step h fun a' w' hS' h' => ih _ a' w' hS' (inv.set hrk hin) hB' h'⟩
  | two i t j u iht ihu =>
    intro listed a w hS inv hB h
    simp only [treeB, Bool.and_eq_true, decide_eq_true_eq] at hB
    obtain ⟨⟨hin, hjn, hd⟩, hr, hBt, hBu⟩ := hB
    have hri : i ∈ Region.ready .any ops listed := by rw [hr]; simp
    have hrj : j ∈ Region.ready .any ops listed := by rw [hr]; simp
    refine ⟨List.ne_nil_of_mem hri, fun k hk => ?_⟩
    rw [hr] at hk
    have hk' : k = i ∨ k = j := by simpa using hk
    by_cases hki : k = i
    · subst hki
      exact ⟨hin, wpOp_of_step h.1 fun a' w' hS' h' => iht _ a' w' hS' (inv.set hri hin) hBt h'⟩
    · obtain rfl : k = j := hk'.resolve_left hki
      refine ⟨hjn, wpOp_of_step h.2 fun a' w' hS' h' => ?_⟩
      show headM P ops S Q n L t.deep _ a' w'
      rw [hd]
      exact ihu _ a' w' hS' (inv.set hrj hjn) hBu h'
end

section
variable {P : Program} {S : World → Prop} {Q : Exit → Act → World → Prop}
/-- The whole region along a tree; behind each call the condition is shown anew. -/
theorem wp_region_tree (t : MT) {id : Nat} {a : Act} {w : World} {l : List Oper} (hm : P.follows .mixedOrders = true)
    (hB : (Region.noSelect l.toArray && (decide (t.deep = l.length) && treeB l.toArray l.length (fun s => decide (Region.ready .any l.toArray s = [])) t (Array.replicate l.toArray.size false))) = true) (hS : S { w with drawn := w.drawn + 1 })
    (hQ : ∀ d v c a w, Q (.panic c) (Act.put a d v) w → Q (.panic c) a w)
    (h : wpTree P l.toArray S Q (fun a w => Q .normal a w) t a { w with drawn := w.drawn + 1 }) : (Code.region id l.toArray true).wp P Q a w := by
  simp only [Bool.and_eq_true, decide_eq_true_eq] at hB
  obtain ⟨hsel, hd, hB⟩ := hB
  have inv0 : HeadInv .any l.toArray l.length (Array.replicate l.toArray.size false) :=
    ⟨by simp, fun j oj _ hl => (by rw [getD_replicate_false] at hl; cases hl), fun t h1 h2 => absurd h2 (by simp; omega)⟩
  have H := headM_tree (P := P) (S := S) (Q := Q) (n := l.length) (L := fun s a w => Region.ready .any l.toArray s = [] ∧ Q .normal a w) (Lq := fun a w => Q .normal a w) (T := fun s => decide (Region.ready .any l.toArray s = [])) hsel hQ
    (fun listed _ _ _ _ j hj => by
      obtain ⟨_, oj, hoj, _⟩ := mem_ready.1 hj
      simpa using (Array.getElem?_eq_some_iff.1 hoj).1)
    (fun listed a w hL j hj => by rw [hL.1] at hj; cases hj) (fun listed a w hT hL => ⟨of_decide_eq_true hT, hL⟩) t _ a _ hS inv0 hB h
  refine wp_region_any hm ?_
  have := any_of_headM (P := P) (S := S) (Q := Q) (g := 0) (fun listed a' W hL => (show wpAny P .any l.toArray Q 0 listed a' W from hL)) _ _ _ _ H
  rw [hd] at this
  simpa using this

/-- The same where the last operations come in one order, and need not keep the condition. -/
theorem wp_region_tree_tail (t : MT) {id : Nat} {a : Act} {w : World} {l : List Oper} (hm : P.follows .mixedOrders = true)
    (hB : (Region.noSelect l.toArray && (decide (t.deep < l.length) && (Region.sinkB .any l.toArray t.deep && (Region.chainB .any l.toArray t.deep && treeB l.toArray t.deep (fun s => Region.seqB .any l.toArray (l.length - t.deep) t.deep s) t (Array.replicate l.toArray.size false))))) = true)
    (hS : S { w with drawn := w.drawn + 1 }) (hQ : ∀ d v c a w, Q (.panic c) (Act.put a d v) w → Q (.panic c) a w)
    (h : wpTree P l.toArray S Q (fun a w => wpList P l.toArray Q (l.drop t.deep) a w) t a { w with drawn := w.drawn + 1 }) : (Code.region id l.toArray true).wp P Q a w := by
  simp only [Bool.and_eq_true, decide_eq_true_eq] at hB
  obtain ⟨hsel, hn, hs, hc, hB⟩ := hB
  have hn' : t.deep < l.toArray.size := by simpa using hn
  have hdl : (l.drop t.deep).length = l.length - t.deep := by simp
  have inv0 : HeadInv .any l.toArray t.deep (Array.replicate l.toArray.size false) :=
    ⟨by simp, fun j oj _ hl => (by rw [getD_replicate_false] at hl; cases hl), fun t _ ht => getD_in (by simpa using ht) (getD_replicate_false _ _)⟩
  have H := headM_tree (P := P) (S := S) (Q := Q) (n := t.deep) (L := fun s a w => Region.seqB .any l.toArray (l.length - t.deep) t.deep s = true ∧ wpList P l.toArray Q (l.drop t.deep) a w) (Lq := fun a w => wpList P l.toArray Q (l.drop t.deep) a w) (T := fun s => Region.seqB .any l.toArray (l.length - t.deep) t.deep s) hsel hQ
    (fun listed inv k hk hun j hj => Nat.lt_of_not_le fun h => tail_waits hs hc hn' inv _ k rfl hk hun j h hj)
    (fun listed a w hL => seqB_ready hL.1) (fun listed a w hT hL => ⟨hT, hL⟩) t _ a _ hS inv0 hB h
  refine wp_region_any hm ?_
  have := any_of_headM (P := P) (S := S) (Q := Q) (g := l.length - t.deep) (fun listed a' W hL => by
    have := wpAny_of_seq (md := .any) (P := P) (Q' := Q) (l.drop t.deep) t.deep listed a' W (fun j => by simp [List.getElem?_drop]) (by rw [hdl]; exact hL.1) hL.2
    rwa [hdl] at this) _ _ _ _ H
  rw [show t.deep + (l.length - t.deep) = l.toArray.size by simp; omega] at this
  exact this
end

/- The moves of a walk along a tree. -/
def nthO : List Oper → Nat → Option Oper
  | [], _ => none
  | o :: _, 0 => some o
  | _ :: l, i + 1 => nthO l i
def pickL (l : List Oper) : List Nat → List Oper
  | [] => []
  | i :: is => match nthO l i with
    | some o => o :: pickL l is
    | none => pickL l is
theorem nthO_eq : ∀ (l : List Oper) (i : Nat), nthO l i = l.toArray[i]?
  | [], i => by simp [nthO]
  | o :: l, 0 => by simp [nthO]
  | o :: l, i + 1 => by rw [nthO, nthO_eq l i]; simp
theorem pickL_eq (l : List Oper) (is : List Nat) : (is.filterMap fun i => l.toArray[i]?) = pickL l is := by
  induction is with
  | nil => rfl
  | cons i is ih =>
    rw [List.filterMap_cons, ← nthO_eq, pickL, ih]
    cases nthO l i <;> rfl

section
variable {P : Program} {l : List Oper} {S : World → Prop} {Q : Exit → Act → World → Prop} {Lq : Act → World → Prop} {a : Act} {w : World}
theorem tree_look {is : List Nat} {t : MT} (h : wpQuiet P l.toArray S (fun a' => wpTree P l.toArray S Q Lq t a' w) (pickL l is) a) : wpTree P l.toArray S Q Lq (.look is t) a w := by
  rw [← pickL_eq] at h; exact h
theorem step_list {i : Nat} {o : Oper} {K : Act → World → Prop} (ho : nthO l i = some o) (h : wpList P l.toArray (mixPost S Q K) [o] a w) : stepT P l.toArray S Q i K a w := by
  unfold stepT; rw [← nthO_eq, ho]; exact h
theorem tree_one {i : Nat} {t : MT} {o : Oper} (ho : nthO l i = some o) (h : wpList P l.toArray (mixPost S Q (wpTree P l.toArray S Q Lq t)) [o] a w) : wpTree P l.toArray S Q Lq (.one i t) a w := step_list ho h
theorem tree_two {i j : Nat} {t u : MT} {o o' : Oper} (ho : nthO l i = some o) (ho' : nthO l j = some o') (h : wpList P l.toArray (mixPost S Q (wpTree P l.toArray S Q Lq t)) [o] a w)
    (h' : wpList P l.toArray (mixPost S Q (wpTree P l.toArray S Q Lq u)) [o'] a w) : wpTree P l.toArray S Q Lq (.two i t j u) a w := ⟨step_list ho h, step_list ho' h'⟩
theorem tree_done (h : Lq a w) : wpTree P l.toArray S Q Lq .done a w := h
end

section
variable {P : Program} {C : World → Prop} {a : Act} {o : Oper} {K : Act → Prop}
/-- A load of one cell that is a slice. -/
theorem q_loadS (ty : TypeId) (x : Operand) (ho : o.op = .load ty x) (p : Addr) (hx : a.eval x = .pointer (some p)) (e : TypeId) (hu : P.underlying ty = some (.slice e)) (v : Value) (hc : ∀ W, C W → W.cell? p = some v)
    (hk : K (a.put o.dst v)) : o.quiet P a C K := by
  refine ⟨v, fun W hW => ?_, hk⟩
  unfold Oper.quietAt execOp
  have h := hc W hW
  simp [ho, hx, Instr.loadAt, Instr.sureAddr, loadVar, isAgg, run_underlying hu, h, Oper.quietUpon]
/-- A load of a struct in the midst of a block. -/
theorem q_loadM (ty : TypeId) (x : Operand) (ho : o.op = .load ty x) (b f : Nat) (hx : a.eval x = .pointer (some ⟨b, f, none⟩)) (cs : List Value) (d : TypeDesc) (hc : ∀ W, C W → W.rangeAt b f cs)
    (hu : P.underlying ty = some d) (hd : d.isRow = true) (hi : (P.info? ty).map (·.size) = some cs.length) (hk : K (a.put o.dst (.agg cs.toArray))) : o.quiet P a C K := by
  refine ⟨.agg cs.toArray, fun W hW => ?_, hk⟩
  unfold Oper.quietAt execOp
  simp only [ho, hx, Instr.loadAt, Instr.sureAddr, Sem.run_bind, Sem.run_pure, Result.andThen_ok, run_loadVar_mid W b f ty cs d (hc W hW) hu hd hi, Oper.quietUpon, and_self]
end

end Go.Proofs.YtjichaeegheacaaGreatDoor

/- Kit -/
/-
  Law 10's small functions: place, SameInts, FuncOf.
-/
namespace Go.Proofs.YtjichaeegheacaaGreatDoor
open Go Go.RowKit

theorem drewN_below (B : Nat) (w : World) (n : Nat) : Below B w (w.drewN n) := ⟨rfl, rfl, rfl, Nat.le_refl _, fun _ _ => rfl⟩

/-- The first k are alike. -/
def AlikeTo (xs ys : List Int) (k : Nat) : Prop := ∀ i, i < k → gI xs i = gI ys i
theorem ext_gI {xs ys : List Int} (hl : xs.length = ys.length) (h : ∀ i, i < xs.length → gI xs i = gI ys i) : xs = ys := by
  apply List.ext_getElem hl
  intro i h1 h2
  have := h i h1
  rwa [gI_eq h1, gI_eq h2] at this

set_option maxHeartbeats 1000000 in
theorem SameInts_any (A B : Option Addr) (ca cb : Nat) (xs ys : List Int) (w : World) (hx : RI w A xs) (hy : RI w B ys) :
    Calls Tryz.prog 24 #[.slice A xs.length ca, .slice B ys.length cb] w (Fresh w (.bool (decide (xs = ys)))) := by
  have hl := hx.len
  have hl2 := hy.len
  by_cases hlen : xs.length = ys.length
  · have hd0 : ((xs.length : Int) != (ys.length : Int)) = false := by simp [hlen]
    go_enter Tryz.func24, Tryz.ntmps24
    have hlen' := Lib.hid hlen
    clear hlen
    go_wp2
    go_loopw [5] (fun i W => ∃ k : Nat, k ≤ xs.length ∧ i = .int .i64 k ∧ AlikeTo xs ys k ∧ Below w.heap.size w W) (fun i _ => xs.length - (intOf i).toNat)
    case atStart => exact ⟨0, Nat.zero_le _, rfl, fun i hi => absurd hi (Nat.not_lt_zero _), Below.refl _ _⟩
    case round =>
      obtain ⟨k, hk, rfl, hn, hB⟩ := hrel
      by_cases hlt : k < xs.length
      · obtain ⟨b, off, rfl, hbl, hcell, hxi⟩ := (hx.below hB).at_ hlt
        obtain ⟨b2, off2, rfl, hbl2, hcell2, hxi2⟩ := (hy.below hB).at_ (k := k) (by have := hlen'.out; omega)
        have hd : decide ((k : Int) < (xs.length : Int)) = true := decide_eq_true (by omega)
        have hk2 : (k : Int) < (xs.length : Int) := by omega
        have hk3 : (k : Int) < (ys.length : Int) := by have := hlen'.out; omega
        have hk4 : (0 : Int) ≤ (k : Int) := by omega
        by_cases he : gI xs k = gI ys k
        · have he' : (gI xs k != gI ys k) = false := by simpa using he
          have hn2 : AlikeTo xs ys (k + 1) := fun i hi => by
            by_cases e : i = k
            · rw [e]; exact he
            · exact hn i (by omega)
          rw [he] at hcell
          clear he he'
          go_wp2
          go_quiet (fail)
          go_wp2
          go_roundw
          case rel => exact ⟨k + 1, by omega, by go_num, hn2, hB.trans (drewN_below _ _ _)⟩
          case measure => simp [intOf]; omega
        · have he' : (gI xs k != gI ys k) = true := by simpa using he
          have hne : decide (xs = ys) = false := decide_eq_false (fun e => he (by rw [e]))
          have hne' := Lib.hid hne
          clear hne
          go_wp2
          go_quiet (fail)
          go_wp2
          go_ret
          exact ⟨by rw [hne'.out]; rfl, hB.trans (drewN_below _ _ _)⟩
      · obtain rfl : k = xs.length := by omega
        have hd : decide ((xs.length : Int) < (xs.length : Int)) = false := by simp
        have hee := Lib.hid (show decide (xs = ys) = true from decide_eq_true (ext_gI hlen'.out hn))
        go_wp2
        go_ret
        exact ⟨by rw [hee.out]; rfl, hB⟩
  · have hd0 : ((xs.length : Int) != (ys.length : Int)) = true := by simp; omega
    have hne := Lib.hid (show decide (xs = ys) = false from decide_eq_false (fun e => hlen (by rw [e])))
    go_enter Tryz.func24, Tryz.ntmps24
    go_wp2
    go_ret
    exact ⟨by rw [hne.out]; rfl, Below.refl _ _⟩

end Go.Proofs.YtjichaeegheacaaGreatDoor

/- Awake10 -/
/-
  Law 10's example: branch, jump, trap; awake.
-/
namespace Go.Proofs.YtjichaeegheacaaGreatDoor
open Go Go.RowKit

/-- A row of edges, as it reads. -/
structure RE (w : World) (A : Option Addr) (es : List Ed) : Prop where
  len : es.length ≤ 140737488355328
  rd : ∀ i, i < es.length → ∃ b off, A = some ⟨b, off, none⟩ ∧ b < w.heap.size ∧ ∀ W, Below w.heap.size w W → W.cell? ⟨b, off + i * 3, none⟩ = some (.int .i64 (gE es i).f) ∧ W.cell? ⟨b, off + i * 3 + 1, none⟩ = some (.int .i64 (gE es i).a) ∧ W.cell? ⟨b, off + i * 3 + 2, none⟩ = some (.int .i64 (gE es i).t)
theorem RE.below {w w' : World} {A : Option Addr} {es : List Ed} (h : RE w A es) (hb : Below w.heap.size w w') : RE w' A es :=
  ⟨h.len, fun i hi => by
    obtain ⟨b, off, e, hlt, hc⟩ := h.rd i hi
    exact ⟨b, off, e, Nat.lt_of_lt_of_le hlt hb.size, fun W hW => hc W (hb.trans (hW.mono hb.size))⟩⟩
theorem edCells_at : ∀ (es : List Ed) (i : Nat), i < es.length → (edCells es)[i * 3]? = some (.int .i64 (gE es i).f) ∧ (edCells es)[i * 3 + 1]? = some (.int .i64 (gE es i).a) ∧ (edCells es)[i * 3 + 2]? = some (.int .i64 (gE es i).t)
  | [], i, h => by cases h
  | e :: es, 0, _ => by simp [edCells, gE]
  | e :: es, i + 1, h => by
    have := edCells_at es i (by simpa using h)
    rw [show (i + 1) * 3 = i * 3 + 3 by omega, show i * 3 + 3 + 1 = i * 3 + 1 + 3 by omega, show i * 3 + 3 + 2 = i * 3 + 2 + 3 by omega]
    simpa [edCells, gE] using this
theorem own_RE {w : World} {base n : Nat} {v : Value} {es : List Ed} (h : w.ownsRow base 58 3 v n (edCells es)) (hl : es.length ≤ 140737488355328) :
    ∃ A c, v = .slice A es.length c ∧ es.length ≤ c ∧ RE w A es := by
  obtain ⟨h1, h2⟩ := h
  have hn : n = es.length := by rw [edCells_len] at h1; omega
  subst hn
  rcases h2 with ⟨rfl, h0⟩ | ⟨g, cap, cur, rfl, hg, hh, hc, hcap, hsz, htake⟩
  · have : es = [] := List.eq_nil_of_length_eq_zero h0
    subst this
    exact ⟨none, 0, rfl, Nat.le_refl _, ⟨by simp, fun i hi => by cases hi⟩⟩
  · refine ⟨some ⟨g, 0, none⟩, cap, rfl, hc, hl, fun i hi => ⟨g, 0, rfl, blk_lt hh, fun W hW => ?_⟩⟩
    have hh2 := blk_below hW hh (blk_lt hh)
    have key : ∀ j, j < es.length * 3 → cur[j]? = (edCells es)[j]? := fun j hj => by
      rw [← htake]
      simp [hj]
    obtain ⟨a1, a2, a3⟩ := edCells_at es i hi
    rw [Nat.zero_add]
    refine ⟨?_, ?_, ?_⟩
    · rw [cell_of_row W g (i * 3) cur _ (0, 0) hh2, key _ (by omega), a1]
    · rw [cell_of_row W g (i * 3 + 1) cur _ (0, 0) hh2, key _ (by omega), a2]
    · rw [cell_of_row W g (i * 3 + 2) cur _ (0, 0) hh2, key _ (by omega), a3]

set_option maxRecDepth 100000 in
theorem branch10_any (x y : Int) (w : World) : Calls Tryz.prog 30 #[.int .i64 x, .int .i64 y] w (Fresh w (.agg #[.slice none 0 0, .int .i64 2, .int .i64 1, .int .i64 x, .int .i64 y])) := by
  go_enter Tryz.func30, Tryz.ntmps30
  go_wp2
  exact bodyPost_ret (results_cell_row rfl _ _ _ _ _ _ _ rfl (blk_new w _) Tryz.underlying49 rfl (by kernel_rfl)) rfl ⟨rfl, (Below.refl _ _).alloc (Nat.le_refl _) _⟩
set_option maxRecDepth 100000 in
theorem jump10_any (x : Int) (w : World) : Calls Tryz.prog 31 #[.int .i64 x] w (Fresh w (.agg #[.slice none 0 0, .int .i64 1, .int .i64 0, .int .i64 x, .int .i64 0])) := by
  go_enter Tryz.func31, Tryz.ntmps31
  go_wp2
  exact bodyPost_ret (results_cell_row rfl _ _ _ _ _ _ _ rfl (blk_new w _) Tryz.underlying49 rfl (by kernel_rfl)) rfl ⟨rfl, (Below.refl _ _).alloc (Nat.le_refl _) _⟩
set_option maxRecDepth 100000 in
theorem trap10_any (w : World) : Calls Tryz.prog 32 #[] w (Fresh w (.agg #[.slice none 0 0, .int .i64 4, .int .i64 0, .int .i64 0, .int .i64 0])) := by
  go_enter Tryz.func32, Tryz.ntmps32
  go_wp2
  exact bodyPost_ret (results_cell_row rfl _ _ _ _ _ _ _ rfl (blk_new w _) Tryz.underlying49 rfl (by kernel_rfl)) rfl ⟨rfl, (Below.refl _ _).alloc (Nat.le_refl _) _⟩

/-- The example's blocks. -/
def bs10 : List Blk := [⟨.slice none 0 0, ⟨2, 1, 1, 2⟩⟩, ⟨.slice none 0 0, ⟨1, 0, 2, 0⟩⟩, ⟨.slice none 0 0, ⟨4, 0, 0, 0⟩⟩]
theorem closed10 : closedB bs10 = true := by kernel_rfl
theorem crit10 : someE bs10 (critB (edgesOf bs10)) = [⟨0, 1, 2⟩] := by kernel_rfl
theorem all10 : (someE bs10 fun _ => true).length = 3 := by kernel_rfl
theorem order10 : OrderIs bs10 [0, 1, 2] := by
  have e0 : suB bs10 0 = [1, 2] := by kernel_rfl
  have e1 : suB bs10 1 = [2] := by kernel_rfl
  have e2 : suB bs10 2 = [] := by kernel_rfl
  refine ⟨⟨withI (withI (withI 0 0) 1) 2, [0, 1, 2]⟩, ?_, rfl⟩
  refine .go (by kernel_rfl) (s1 := ⟨withI (withI (withI 0 0) 1) 2, [1, 2]⟩) ?_ (.nil _)
  rw [e0]
  refine .go (by kernel_rfl) (s1 := ⟨withI (withI (withI 0 0) 1) 2, [2]⟩) ?_ (.skip (by kernel_rfl) (.nil _))
  rw [e1]
  refine .go (by kernel_rfl) (s1 := ⟨withI (withI (withI 0 0) 1) 2, []⟩) ?_ (.nil _)
  rw [e2]
  exact .nil _
theorem order10_eq {l : List Int} (h : OrderIs bs10 l) : l = [0, 1, 2] := by
  obtain ⟨s, hs, rfl⟩ := h
  obtain ⟨s', hs', e⟩ := order10
  rw [← e, Thr.det hs hs']

theorem rf_lit {w : World} {g : Nat} {bs : List Blk} {cs : Array Value} {t : TypeId} (h : w.heap[g]? = some (.cells cs t (0, 0))) (hok : OkBs bs) (hone : ∀ i, i < bs.length → (gB bs i).ins.oneCell' = true) (hl : bs.length ≤ 4)
    (hc : ∀ k, k < 5 * bs.length → cs[k]? = some ((gB bs (k / 5)).cell (k % 5))) : RF w (some ⟨g, 0, none⟩) bs := by
  refine ⟨by omega, hok, hone, fun _ => ⟨g, 0, rfl, blk_lt h, fun k hk => ?_⟩⟩
  rw [cell_of_row w g _ cs t (0, 0) h, Nat.zero_add]
  exact hc k hk

set_option maxRecDepth 100000 in
set_option maxHeartbeats 1000000 in
theorem awake10_any (w : World) : Calls Tryz.prog 8 #[] w (Fresh w (.bool true)) := by
  go_enter Tryz.func8, Tryz.ntmps8
  go_wp2_with fail
  refine (branch10_any 1 2 w).mono ?_
  rintro e W1 ⟨rfl, hb1⟩
  go_wp2_with fail
  refine (jump10_any 2 _).mono ?_
  rintro e W2 ⟨rfl, hb2⟩
  go_wp2_with fail
  refine (trap10_any _).mono ?_
  rintro e W3 ⟨rfl, hb3⟩
  have hB3 := hb1.trans ((hb2.trans (hb3.mono hb2.size)).mono hb1.size)
  clear hb1 hb2 hb3
  go_wp2_with fail
  have hbl := blk_new W3 (.cells #[.slice none 0 0, .int .i64 2, .int .i64 1, .int .i64 1, .int .i64 2, .slice none 0 0, .int .i64 1, .int .i64 0, .int .i64 2, .int .i64 0, .slice none 0 0, .int .i64 4, .int .i64 0, .int .i64 0, .int .i64 0] 49)
  have hbf := blk_new (W3.alloc (.cells #[.slice none 0 0, .int .i64 2, .int .i64 1, .int .i64 1, .int .i64 2, .slice none 0 0, .int .i64 1, .int .i64 0, .int .i64 2, .int .i64 0, .slice none 0 0, .int .i64 4, .int .i64 0, .int .i64 0, .int .i64 0] 49)) (.cells #[.slice none 0 0, .slice (some ⟨W3.heap.size, 0, none⟩) 3 3] 25)
  rw [World.size_alloc] at hbf
  have hbl2 := (blk_old _ (.cells #[.slice none 0 0, .slice (some ⟨W3.heap.size, 0, none⟩) 3 3] 25) (blk_lt hbl)).trans hbl
  have hB4 := (hB3.alloc hB3.size (.cells #[.slice none 0 0, .int .i64 2, .int .i64 1, .int .i64 1, .int .i64 2, .slice none 0 0, .int .i64 1, .int .i64 0, .int .i64 2, .int .i64 0, .slice none 0 0, .int .i64 4, .int .i64 0, .int .i64 0, .int .i64 0] 49)).alloc (by have := hB3.size; simp; omega) (.cells #[.slice none 0 0, .slice (some ⟨W3.heap.size, 0, none⟩) 3 3] 25)
  have hrf := rf_lit (bs := bs10) hbl2 (by
    intro i hi
    match i, hi with
    | 0, _ => exact ⟨⟨by decide, by decide⟩, ⟨by decide, by decide⟩, ⟨by decide, by decide⟩, ⟨by decide, by decide⟩⟩
    | 1, _ => exact ⟨⟨by decide, by decide⟩, ⟨by decide, by decide⟩, ⟨by decide, by decide⟩, ⟨by decide, by decide⟩⟩
    | 2, _ => exact ⟨⟨by decide, by decide⟩, ⟨by decide, by decide⟩, ⟨by decide, by decide⟩, ⟨by decide, by decide⟩⟩)
    (by
      intro i hi
      match i, hi with
      | 0, _ => rfl
      | 1, _ => rfl
      | 2, _ => rfl) (by decide) (by
      intro k hk
      match k, hk with
      | 0, _ | 1, _ | 2, _ | 3, _ | 4, _ | 5, _ | 6, _ | 7, _ | 8, _ | 9, _ | 10, _ | 11, _ | 12, _ | 13, _ | 14, _ => rfl)
  clear hbl hbl2 hB3
  generalize (W3.alloc _).alloc _ = W4 at *
  generalize W3.heap.size = g at *
  have qc := Critical_any (.slice none 0 0) (some ⟨g, 0, none⟩) 3 bs10 W4 hrf
  rw [crit10] at qc
  refine qc.mono ?_
  clear qc
  rintro e W5 ⟨v, rfl, ho5, hn5, hb5⟩
  obtain ⟨A5, c5, rfl, hc5, hE5⟩ := own_RE ho5 (by decide)
  have hbf5 := blk_below hb5 hbf (blk_lt hbf)
  have hB5 := hB4.trans (hb5.mono hB4.size)
  go_wp2_with (refine wpList_load_row rfl _ _ rfl _ rfl _ _ _ _ hbf5 Tryz.underlying25 rfl (by kernel_rfl) ?_)
  refine (Order_yes (.slice none 0 0) (some ⟨g, 0, none⟩) 3 bs10 W5 (hrf.below hb5) closed10).mono ?_
  rintro e W6 ⟨l, rb, off, hl, rfl, hrow, hrb, hb6⟩
  obtain rfl := order10_eq hl
  have hbf6 := blk_below hb6 hbf5 (blk_lt hbf5)
  have hB6 := hB5.trans (hb6.mono hB5.size)
  have hE6 := hE5.below hb6
  go_wp2_with fail
  have hbA := (Below.refl W6.heap.size W6).alloc (Nat.le_refl _) (.cells #[.int .i64 0, .int .i64 1, .int .i64 2] 3)
  have qs := SameInts_any (some ⟨rb, off, none⟩) (some ⟨W6.heap.size, 0, none⟩) 3 3 [0, 1, 2] [0, 1, 2] _ (hrow.RI.below hbA) (RI_lit (blk_new W6 (.cells #[.int .i64 0, .int .i64 1, .int .i64 2] 3)) (by intro x hx; simp at hx; rcases hx with rfl | rfl | rfl <;> exact ⟨by decide, by decide⟩) (by decide))
  rw [show decide (([0, 1, 2] : List Int) = [0, 1, 2]) = true from rfl] at qs
  refine qs.mono ?_
  clear qs
  rintro e W7 ⟨rfl, hb7⟩
  have hb7' := hbA.trans (hb7.mono hbA.size)
  have hbf7 := blk_below hb7' hbf6 (blk_lt hbf6)
  have hB7 := hB6.trans (hb7'.mono hB6.size)
  obtain ⟨b, o, rfl, hbb, hcc⟩ := (hE6.below hb7').rd 0 (by decide)
  obtain ⟨x0, x1, x2⟩ := hcc W7 (Below.refl _ _)
  simp only [Nat.zero_mul, Nat.add_zero, gE, List.getElem?_cons_zero, Option.getD_some] at x0 x1 x2
  have heq : ∀ W, (binOp .eql 58 (.agg #[.int .i64 0, .int .i64 1, .int .i64 2]) (.agg #[.int .i64 0, .int .i64 1, .int .i64 2])).run Tryz.prog W = .ok (.bool true) W := fun W => by kernel_rfl
  clear hcc hb7 hbA hrow hE6 hE5
  go_wp2_with (refine wpList_load_rowG rfl _ _ rfl _ rfl _ _ _ _ hbf7 Tryz.underlying25 rfl (by kernel_rfl) ?_)
  refine (Edges_any (.slice none 0 0) (some ⟨g, 0, none⟩) 3 bs10 W7 ((hrf.below hb5).below (hb6.trans (hb7'.mono hb6.size)))).mono ?_
  rintro e W8 ⟨v8, rfl, ho8, hn8, hb8⟩
  obtain ⟨A8, c8, rfl⟩ := own_form ho8
  rw [all10]
  go_wp2
  go_ret
  exact ⟨rfl, hB7.trans (hb8.mono hB7.size)⟩

end Go.Proofs.YtjichaeegheacaaGreatDoor

/- Count -/
/-
  How great a function is: BlocksOf, FuncOf: some number.
-/
namespace Go.Proofs.YtjichaeegheacaaGreatDoor
open Go Go.RowKit

/-- Instructions whose arguments can be counted. -/
def InsOk (w : World) (v : Value) : Prop :=
  ∃ (A : Option Addr) (n c : Nat), v = .slice A n c ∧ n ≤ 140737488355328 ∧
    ∀ k, k < n → ∃ b off, A = some ⟨b, off, none⟩ ∧ b < w.heap.size ∧ ∃ (Aa : Option Addr) (na ca : Nat), w.cell? ⟨b, off + k * 8 + 6, none⟩ = some (.slice Aa na ca) ∧ na ≤ 140737488355328
theorem InsOk.below {w w' : World} {v : Value} (h : InsOk w v) (hb : Below w.heap.size w w') : InsOk w' v := by
  obtain ⟨A, n, c, e, hn, hk⟩ := h
  refine ⟨A, n, c, e, hn, fun k hk' => ?_⟩
  obtain ⟨b, off, e1, e2, Aa, na, ca, e3, e4⟩ := hk k hk'
  exact ⟨b, off, e1, Nat.lt_of_lt_of_le e2 hb.size, Aa, na, ca, (hb.cell (p := ⟨b, off + k * 8 + 6, none⟩) e2).trans e3, e4⟩
/-- Of each block. -/
def AllIns (w : World) (bs : List Blk) : Prop := ∀ i, i < bs.length → InsOk w (gB bs i).ins
theorem AllIns.below {w w' : World} {bs : List Blk} (h : AllIns w bs) (hb : Below w.heap.size w w') : AllIns w' bs := fun i hi => (h i hi).below hb

set_option maxRecDepth 100000 in
set_option maxHeartbeats 2000000 in
theorem BlocksOf_any (A : Option Addr) (c : Nat) (bs : List Blk) (m : Int) (w : World) (hr : RF w A bs) (hi : AllIns w bs) (hm0 : 0 ≤ m) (hm : m ≤ 500) :
    Calls Tryz.prog 47 #[.slice A bs.length c, .int .i64 m] w fun e w' => ∃ n : Int, e = .returned (.int .i64 n) ∧ 0 ≤ n ∧ n ≤ 1000000000000000 ∧ w' = w := by
  have hl := hr.len
  go_enter Tryz.func47, Tryz.ntmps47
  go_wp2
  go_loopw [5, 6] (fun n i W => ∃ (k : Nat) (s : Int), k ≤ bs.length ∧ i = .int .i64 k ∧ n = .int .i64 s ∧ 0 ≤ s ∧ s ≤ 1000000000000000 ∧ W = w) (fun _ i _ => bs.length - (intOf i).toNat)
  case atStart => exact ⟨0, 0, Nat.zero_le _, rfl, rfl, by omega, by omega, rfl⟩
  case round =>
    obtain ⟨k, s, hk, rfl, rfl, h0, h1, rfl⟩ := hrel
    by_cases hlt : k < bs.length
    · have hd : decide ((k : Int) < (bs.length : Int)) = true := decide_eq_true (by omega)
      by_cases hs : s ≤ m
      · have hd1 : decide (s ≤ m) = true := decide_eq_true hs
        obtain ⟨b, off, hAe, hbl, hok, hcs⟩ := hr.at_ hlt
        have e0 := hcs 0 (by decide)
        rw [Nat.mul_comm, Nat.add_zero] at e0
        obtain ⟨Ai, ni, ci, hie, hni, hik⟩ := hi k hlt
        simp only [Blk.cell, hie] at e0
        clear hie hcs
        subst hAe
        go_wp2
        go_loopw [5, 7] (fun n j W => ∃ (q : Nat) (t : Int), q ≤ ni ∧ j = .int .i64 q ∧ n = .int .i64 t ∧ 0 ≤ t ∧ t ≤ 1000000000000000 ∧ W = wr) (fun _ j _ => ni - (intOf j).toNat)
        case atStart => exact ⟨0, _, Nat.zero_le _, rfl, rfl, by omega, by omega, rfl⟩
        case round =>
          obtain ⟨q, t, hq, rfl, rfl, t0, t1, rfl⟩ := hrel
          by_cases hql : q < ni
          · have hd2 : decide ((q : Int) < (ni : Int)) = true := decide_eq_true (by omega)
            by_cases ht : t ≤ m
            · have hd3 : decide (t ≤ m) = true := decide_eq_true ht
              obtain ⟨bi, oi, rfl, hbi, Aa, na, ca, hca, hna⟩ := hik q hql
              go_wp2
              go_roundw
              case rel => exact ⟨q + 1, _, by omega, by go_num, rfl, by omega, by omega, by trivial⟩
              case measure => simp [intOf]; omega
            · have hd3 : decide (t ≤ m) = false := decide_eq_false ht
              go_wp2
              go_roundw
              case rel => exact ⟨k + 1, _, by omega, by go_num, rfl, by omega, by omega, by trivial⟩
              case measure => simp [intOf]; omega
          · obtain rfl : q = ni := by omega
            have hd2 : decide ((q : Int) < (q : Int)) = false := by simp
            go_wp2
            go_roundw
            case rel => exact ⟨k + 1, _, by omega, by go_num, rfl, by omega, by omega, by trivial⟩
            case measure => simp [intOf]; omega
      · have hd1 : decide (s ≤ m) = false := decide_eq_false hs
        go_wp2
        go_ret
        exact ⟨s, rfl, h0, h1, rfl⟩
    · obtain rfl : k = bs.length := by omega
      have hd : decide ((bs.length : Int) < (bs.length : Int)) = false := by simp
      go_wp2
      go_ret
      exact ⟨s, rfl, h0, h1, rfl⟩

/-- A function that came in: what its parameters' slice holds is not asked. -/
structure Fn (w : World) (P : Value) (A : Option Addr) (bs : List Blk) : Prop where
  rf : RF w A bs
  ins : AllIns w bs
  par : ∃ (Ap : Option Addr) (np cp : Nat), P = .slice Ap np cp ∧ np ≤ 140737488355328
theorem Fn.below {w w' : World} {P : Value} {A : Option Addr} {bs : List Blk} (h : Fn w P A bs) (hb : Below w.heap.size w w') : Fn w' P A bs := ⟨h.rf.below hb, h.ins.below hb, h.par⟩

set_option maxRecDepth 100000 in
set_option maxHeartbeats 1000000 in
theorem FuncOf_any (P : Value) (A : Option Addr) (c : Nat) (bs : List Blk) (m : Int) (w : World) (hf : Fn w P A bs) (hm0 : 0 ≤ m) (hm : m ≤ 500) :
    Calls Tryz.prog 7 #[.agg #[P, .slice A bs.length c], .int .i64 m] w fun e w' => ∃ n : Int, e = .returned (.int .i64 n) ∧ 0 ≤ n ∧ n ≤ 2000000000000000 ∧ Below w.heap.size w w' := by
  obtain ⟨Ap, np, cp, rfl, hnp⟩ := hf.par
  have hb0 := (Below.refl w.heap.size w).alloc (Nat.le_refl _) (.cells #[.slice Ap np cp, .slice A bs.length c] 25)
  have hs := blk_new w (.cells #[.slice Ap np cp, .slice A bs.length c] 25)
  have c0 : ∀ W, Below (w.alloc (.cells #[.slice Ap np cp, .slice A bs.length c] 25)).heap.size (w.alloc (.cells #[.slice Ap np cp, .slice A bs.length c] 25)) W → W.cell? ⟨w.heap.size, 0, none⟩ = some (.slice Ap np cp) := fun W hW => (cell_of_row _ _ 0 _ _ _ (blk_below hW hs (blk_lt hs))).trans rfl
  have c1 : ∀ W, Below (w.alloc (.cells #[.slice Ap np cp, .slice A bs.length c] 25)).heap.size (w.alloc (.cells #[.slice Ap np cp, .slice A bs.length c] 25)) W → W.cell? ⟨w.heap.size, 1, none⟩ = some (.slice A bs.length c) := fun W hW => (cell_of_row _ _ 1 _ _ _ (blk_below hW hs (blk_lt hs))).trans rfl
  have hl := hf.rf.len
  go_enter Tryz.func7, Tryz.ntmps7
  go_wp2
  generalize hw1 : (w.alloc (.cells #[.slice Ap np cp, .slice A bs.length c] 25)) = w1 at *
  refine wp_region_tree (S := fun W => ∃ p : Regrown, W = Sort.grow (redrawn w1 p.d) p.os) (.look [0, 1, 2, 3, 4, 5] (.one 6 (.look [7, 8] .done))) (by kernel_rfl) (by kernel_rfl) (regrown_of_below ((Below.refl w1.heap.size w1).drew)) (fun d _ _ _ _ h => by cases d <;> exact h) ?_
  refine tree_look ?_
  dsimp only [pickL, nthO]
  repeat (first
    | go_big_quiet_skip
    | (go_big_quiet_want; first
        | (go_big_quiet_op; go_big_quiet_on)
        | ((first
            | refine q_go ⟨_, ⟨0, #[]⟩, rfl⟩ (fun K' hk => q_loadS _ _ rfl ⟨w.heap.size, 0, none⟩ rfl _ Tryz.underlying22 _ (fun W hW => c0 W (below_of_grow hW)) hk) ?_
            | refine q_go ⟨_, ⟨0, #[]⟩, rfl⟩ (fun K' hk => q_loadS _ _ rfl ⟨w.heap.size, 1, none⟩ rfl _ Tryz.underlying23 _ (fun W hW => c1 W (below_of_grow hW)) hk) ?_); go_big_quiet_op; go_big_quiet_on)))
  refine wpQuiet_nil ?_
  refine tree_one rfl ?_
  go_wp2_with fail
  have hdr : Below w1.heap.size w1 w1.drew := (Below.refl _ _).drew
  refine (BlocksOf_any A c bs m _ (hf.rf.below (hb0.trans (hdr.mono hb0.size))) (hf.ins.below (hb0.trans (hdr.mono hb0.size))) hm0 hm).mono ?_
  rintro e W2 ⟨n, rfl, n0, n1, rfl⟩
  go_wp2
  refine ⟨regrown_of_below hdr, ?_⟩
  refine tree_look ?_
  dsimp only [pickL, nthO]
  repeat (first
    | go_big_quiet_skip
    | (go_big_quiet_want; go_big_quiet_op; go_big_quiet_on))
  refine wpQuiet_nil ?_
  refine tree_done ?_
  go_wp2
  go_ret
  exact ⟨_, rfl, by omega, by omega, hb0.trans (hdr.mono hb0.size)⟩

end Go.Proofs.YtjichaeegheacaaGreatDoor
