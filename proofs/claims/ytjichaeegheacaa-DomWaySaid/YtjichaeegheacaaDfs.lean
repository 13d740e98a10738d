
/-
  Going through a graph in depth: what is gone through, what is put, in reverse postorder. Plain Lean: no program in sight.
-/
import Derived.Test.YtjichaeegheacaaSets
namespace Go.Proofs.Ytjichaeegheacaa
open Go

/-- Is a number in a set? -/
def hasN (G : Nat) (b : Int) : Bool := inR b && G.testBit b.toNat
theorem hasN_with {G : Nat} {b : Int} (hb : inR b = true) (x : Int) : hasN (withI G b) x = true ↔ hasN G x = true ∨ x = b := by
  unfold hasN
  by_cases hx : inR x = true
  · have hx' := (inR_iff x).1 hx
    rw [hx, testBit_withI _ _ (by omega)]
    simp
    constructor
    · rintro (h | h)
      · exact .inl h
      · exact .inr (by omega)
    · rintro (h | h)
      · exact .inl h
      · exact .inr (by omega)
  · simp only [hx, Bool.false_and, Bool.false_eq_true, false_or, false_iff]
    rintro rfl
    exact hx hb

/-- What is gone through, and what is put. -/
structure St where
  G : Nat
  L : List Int

/-- Going through some blocks, one after another. -/
inductive Thr (su : Int → List Int) : List Int → St → St → Prop
  | nil (s : St) : Thr su [] s s
  | skip {b : Int} {bs : List Int} {s s' : St} : hasN s.G b = true → Thr su bs s s' → Thr su (b :: bs) s s'
  | go {b : Int} {bs : List Int} {s s1 s' : St} : hasN s.G b = false → Thr su (su b) ⟨withI s.G b, s.L⟩ s1 → Thr su bs ⟨s1.G, b :: s1.L⟩ s' → Thr su (b :: bs) s s'

theorem Thr.append {su : Int → List Int} {l1 l2 : List Int} {s s1 s2 : St} (h1 : Thr su l1 s s1) (h2 : Thr su l2 s1 s2) : Thr su (l1 ++ l2) s s2 := by
  induction h1 with
  | nil s => exact h2
  | skip hb _ ih => exact .skip hb (ih h2)
  | go hb hi _ _ ih => exact .go hb hi (ih h2)

theorem Thr.det {su : Int → List Int} {l : List Int} {s a : St} (h1 : Thr su l s a) : ∀ {b : St}, Thr su l s b → a = b := by
  induction h1 with
  | nil s => intro b h; cases h; rfl
  | skip hb _ ih =>
    intro c h
    cases h with
    | skip _ h => exact ih h
    | go hb' _ _ => rw [hb] at hb'; cases hb'
  | go hb hi hr ih1 ih2 =>
    intro c h
    cases h with
    | skip hb' _ => rw [hb] at hb'; cases hb'
    | go _ hi' hr' =>
      have := ih1 hi'
      subst this
      exact ih2 hr'

/-- There is a way. -/
inductive Way (su : Int → List Int) : Int → Int → Prop
  | refl (x : Int) : Way su x x
  | step {x y z : Int} : Way su x y → z ∈ su y → Way su x z
theorem Way.trans {su : Int → List Int} {x y z : Int} (h : Way su x y) (k : Way su y z) : Way su x z := by
  induction k with
  | refl => exact h
  | step _ hz ih => exact ih.step hz
theorem Way.head {su : Int → List Int} {x y z : Int} (h : y ∈ su x) (k : Way su y z) : Way su x z := ((Way.refl x).step h).trans k

section
variable {su : Int → List Int} {ok : Int → Prop} (hok : ∀ b, ok b → ∀ x ∈ su b, ok x) (hin : ∀ b, ok b → inR b = true)
include hok hin

/-- What a going through adds. -/
theorem Thr.adds {l : List Int} {s s' : St} (h : Thr su l s s') : (∀ x ∈ l, ok x) →
    ∃ N : List Int, s'.L = N ++ s.L ∧ (∀ x, hasN s'.G x = true ↔ hasN s.G x = true ∨ x ∈ N) ∧ N.Nodup ∧ (∀ x ∈ N, hasN s.G x = false) ∧ (∀ x ∈ N, ok x) ∧ (∀ x ∈ N, ∃ b ∈ l, Way su b x) ∧
      (∀ b ∈ l, hasN s'.G b = true) ∧ (∀ x ∈ N, ∀ v ∈ su x, hasN s'.G v = true) := by
  induction h with
  | nil s => intro _; exact ⟨[], rfl, fun x => by simp, List.nodup_nil, by simp, by simp, by simp, by simp, by simp⟩
  | @skip b bs s s' hb _ ih =>
    intro hl
    obtain ⟨N, h1, h2, h3, h4, h5, h6, h7, h8⟩ := ih fun x hx => hl x (List.mem_cons_of_mem _ hx)
    refine ⟨N, h1, h2, h3, h4, h5, fun x hx => ?_, fun x hx => ?_, h8⟩
    · obtain ⟨c, hc, hw⟩ := h6 x hx
      exact ⟨c, List.mem_cons_of_mem _ hc, hw⟩
    · rcases List.mem_cons.1 hx with rfl | hx
      · exact (h2 _).2 (.inl hb)
      · exact h7 x hx
  | @go b bs s s1 s' hb _ _ ih1 ih2 =>
    intro hl
    have okb := hl b (List.mem_cons_self ..)
    have inb := hin b okb
    obtain ⟨N1, a1, a2, a3, a4, a5, a6, a7, a8⟩ := ih1 (hok b okb)
    obtain ⟨N2, c1, c2, c3, c4, c5, c6, c7, c8⟩ := ih2 fun x hx => hl x (List.mem_cons_of_mem _ hx)
    simp only at a1 a2 a4 c1 c2 c4
    have hG : ∀ x, hasN s1.G x = true ↔ (hasN s.G x = true ∨ x = b) ∨ x ∈ N1 := fun x => by rw [a2, hasN_with inb]
    refine ⟨N2 ++ b :: N1, ?_, fun x => ?_, ?_, fun x hx => ?_, fun x hx => ?_, fun x hx => ?_, fun x hx => ?_, fun x hx v hv => ?_⟩
    · rw [c1, a1]; simp
    · rw [c2, hG]
      simp only [List.mem_append, List.mem_cons]
      constructor
      · rintro (((h | h) | h) | h)
        · exact .inl h
        · exact .inr (.inr (.inl h))
        · exact .inr (.inr (.inr h))
        · exact .inr (.inl h)
      · rintro (h | h | h | h)
        · exact .inl (.inl (.inl h))
        · exact .inr h
        · exact .inl (.inl (.inr h))
        · exact .inl (.inr h)
    · rw [List.nodup_append, List.nodup_cons]
      refine ⟨c3, ⟨fun hb1 => ?_, a3⟩, fun x hx y hy e => ?_⟩
      · have := a4 b hb1
        rw [(hasN_with inb b).2 (.inr rfl)] at this
        cases this
      · subst e
        have := c4 x hx
        have h2 : hasN s1.G x = true := by
          rw [hG]
          rcases List.mem_cons.1 hy with rfl | hy
          · exact .inl (.inr rfl)
          · exact .inr hy
        rw [h2] at this
        cases this
    · rcases List.mem_append.1 hx with hx | hx
      · have := c4 x hx
        cases hs : hasN s.G x
        · rfl
        · rw [(hG x).2 (.inl (.inl hs))] at this; cases this
      · rcases List.mem_cons.1 hx with rfl | hx
        · exact hb
        · have := a4 x hx
          cases hs : hasN s.G x
          · rfl
          · rw [(hasN_with inb x).2 (.inl hs)] at this; cases this
    · rcases List.mem_append.1 hx with hx | hx
      · exact c5 x hx
      · rcases List.mem_cons.1 hx with rfl | hx
        · exact okb
        · exact a5 x hx
    · rcases List.mem_append.1 hx with hx | hx
      · obtain ⟨c, hc, hw⟩ := c6 x hx
        exact ⟨c, List.mem_cons_of_mem _ hc, hw⟩
      · rcases List.mem_cons.1 hx with rfl | hx
        · exact ⟨x, List.mem_cons_self .., .refl x⟩
        · obtain ⟨c, hc, hw⟩ := a6 x hx
          exact ⟨b, List.mem_cons_self .., hw.head hc⟩
    · rcases List.mem_cons.1 hx with rfl | hx
      · exact (c2 _).2 (.inl ((hG _).2 (.inl (.inr rfl))))
      · exact c7 x hx
    · rcases List.mem_append.1 hx with hx | hx
      · exact c8 x hx v hv
      · rcases List.mem_cons.1 hx with rfl | hx
        · exact (c2 _).2 (.inl (a7 v hv))
        · exact (c2 _).2 (.inl (a8 x hx v hv))

/-- Each edge goes to one that stands behind, or that goes back. -/
def Good (su : Int → List Int) : List Int → Prop
  | [] => True
  | u :: Y => (∀ v ∈ su u, v ∈ Y ∨ Way su v u) ∧ Good su Y

theorem Thr.good {l : List Int} {s s' : St} (h : Thr su l s s') : (∀ x ∈ l, ok x) → (∀ y, hasN s.G y = true → y ∉ s.L → ∀ b ∈ l, Way su y b) → Good su s.L → Good su s'.L := by
  induction h with
  | nil s => intro _ _ h; exact h
  | @skip b bs s s' hb _ ih =>
    intro hl hp hg
    exact ih (fun x hx => hl x (List.mem_cons_of_mem _ hx)) (fun y h1 h2 c hc => hp y h1 h2 c (List.mem_cons_of_mem _ hc)) hg
  | @go b bs s s1 s' hb hi hr ih1 ih2 =>
    intro hl hp hg
    have okb := hl b (List.mem_cons_self ..)
    have inb := hin b okb
    obtain ⟨N1, a1, a2, a3, a4, a5, a6, a7, a8⟩ := Thr.adds hok hin hi (hok b okb)
    simp only at a1 a2 a4
    have hg1 : Good su s1.L := ih1 (hok b okb) (fun y h1 h2 c hc => by
      rcases (hasN_with inb y).1 h1 with h | rfl
      · exact (hp y h h2 b (List.mem_cons_self ..)).step hc
      · exact (Way.refl y).step hc) hg
    refine ih2 (fun x hx => hl x (List.mem_cons_of_mem _ hx)) (fun y h1 h2 c hc => ?_) ⟨fun v hv => ?_, hg1⟩
    · simp only [List.mem_cons, not_or] at h1 h2
      rcases (a2 y).1 h1 with h | h
      · rcases (hasN_with inb y).1 h with h | h
        · refine hp y h (fun hy => h2.2 ?_) c (List.mem_cons_of_mem _ hc)
          rw [a1]; exact List.mem_append_right _ hy
        · exact absurd h h2.1
      · exact absurd (by rw [a1]; exact List.mem_append_left _ h) h2.2
    · rcases (a2 v).1 (a7 v hv) with h | h
      · rcases (hasN_with inb v).1 h with h | h
        · by_cases hvL : v ∈ s.L
          · exact .inl (by rw [a1]; exact List.mem_append_right _ hvL)
          · exact .inr (hp v h hvL b (List.mem_cons_self ..))
        · subst h; exact .inr (.refl v)
      · exact .inl (by rw [a1]; exact List.mem_append_left _ h)

/-- The whole: from one block, with nothing gone through. -/
theorem Thr.whole {b0 : Int} {s' : St} (h0 : ok b0) (h : Thr su [b0] ⟨0, []⟩ s') :
    (∃ Y, s'.L = b0 :: Y) ∧ s'.L.Nodup ∧ (∀ x, x ∈ s'.L ↔ Way su b0 x) ∧ Good su s'.L ∧ (∀ x ∈ s'.L, ok x) := by
  have hz : ∀ x, hasN 0 x = false := fun x => by unfold hasN; rw [Nat.zero_testBit, Bool.and_false]
  obtain ⟨N, a1, a2, a3, a4, a5, a6, a7, a8⟩ := Thr.adds hok hin h (fun x hx => by simp at hx; subst hx; exact h0)
  simp only [List.append_nil] at a1
  rw [a1]
  have a2' : ∀ x, hasN s'.G x = true ↔ x ∈ N := fun x => by rw [a2]; simp [hz]
  refine ⟨?_, a3, fun x => ⟨fun hx => ?_, fun hx => ?_⟩, ?_, a5⟩
  · cases h with
    | skip hb _ => rw [hz] at hb; cases hb
    | go _ _ hr =>
      cases hr with
      | nil => exact ⟨_, a1.symm⟩
  · obtain ⟨c, hc, hw⟩ := a6 x hx
    simp at hc; subst hc; exact hw
  · induction hx with
    | refl => exact (a2' _).1 (a7 _ (by simp))
    | step _ hz ih => exact (a2' _).1 (a8 _ ih _ hz)
  · rw [← a1]
    exact Thr.good hok hin h (fun x hx => by simp at hx; subst hx; exact h0) (fun y h1 => by rw [hz] at h1; cases h1) trivial
end

/-- How many of the first n are in a set. -/
def cntG (G n : Nat) : Nat := (List.range n).countP fun j => G.testBit j
theorem cntG_le (G n : Nat) : cntG G n ≤ n := by
  have := List.countP_le_length (p := fun j => G.testBit j) (l := List.range n)
  simpa [cntG] using this
theorem cntG_zero (n : Nat) : cntG 0 n = 0 := by
  unfold cntG
  rw [List.countP_eq_zero]
  intro a _; simp
theorem cntG_succ (G n : Nat) : cntG G (n + 1) = cntG G n + if G.testBit n then 1 else 0 := by
  unfold cntG
  rw [List.range_succ, List.countP_append]
  simp [List.countP_cons]
theorem cntG_with {G : Nat} {b : Int} (hb : inR b = true) (h : hasN G b = false) : ∀ n : Nat, n ≤ 1024 → cntG (withI G b) n = cntG G n + if b < n then 1 else 0
  | 0, _ => by
    have := (inR_iff b).1 hb
    rw [if_neg (by omega)]; rfl
  | n + 1, hn => by
    have hb' := (inR_iff b).1 hb
    unfold hasN at h
    rw [hb, Bool.true_and] at h
    rw [cntG_succ, cntG_succ, cntG_with hb (by unfold hasN; rw [hb, Bool.true_and]; exact h) n (by omega), testBit_withI G b (by omega)]
    by_cases e : b = (n : Int)
    · subst e
      have h' : G.testBit n = false := h
      simp [h']
      omega
    · have : decide (b = (n : Int)) = false := decide_eq_false e
      rw [this, Bool.or_false]
      have hc : ((n + 1 : Nat) : Int) = (n : Int) + 1 := by omega
      by_cases q : b < (n : Int)
      · have q2 : b < ((n + 1 : Nat) : Int) := by omega
        rw [if_pos q, if_pos q2]; omega
      · have q2 : ¬ b < ((n + 1 : Nat) : Int) := by omega
        rw [if_neg q, if_neg q2]; omega

/-- What is reached from some, through none of others. -/
inductive Rt (su : Int → List Int) (n : Nat) (frm nt : List Int) : Int → Prop
  | base {x : Int} : x ∈ frm → x ∉ nt → 0 ≤ x → x < n → Rt su n frm nt x
  | step {x y : Int} : Rt su n frm nt x → y ∈ su x → y ∉ nt → Rt su n frm nt y

theorem Rt.way {su : Int → List Int} {n : Nat} {b0 x : Int} (h0 : 0 ≤ b0) (h1 : b0 < n) : Rt su n [b0] [] x ↔ Way su b0 x := by
  constructor
  · intro h
    induction h with
    | base h _ _ _ => simp at h; subst h; exact .refl _
    | step _ hy _ ih => exact ih.step hy
  · intro h
    induction h with
    | refl => exact .base (by simp) (by simp) h0 h1
    | step _ hy ih => exact ih.step hy (by simp)

theorem Rt.append {su : Int → List Int} {n : Nat} {a b : List Int} {x : Int} : Rt su n (a ++ b) [] x ↔ Rt su n a [] x ∨ Rt su n b [] x := by
  constructor
  · intro h
    induction h with
    | base h h1 h2 h3 =>
      rcases List.mem_append.1 h with h | h
      · exact .inl (.base h h1 h2 h3)
      · exact .inr (.base h h1 h2 h3)
    | step _ hy h1 ih =>
      rcases ih with h | h
      · exact .inl (h.step hy h1)
      · exact .inr (h.step hy h1)
  · rintro (h | h)
    · induction h with
      | base h h1 h2 h3 => exact .base (List.mem_append_left _ h) h1 h2 h3
      | step _ hy h1 ih => exact ih.step hy h1
    · induction h with
      | base h h1 h2 h3 => exact .base (List.mem_append_right _ h) h1 h2 h3
      | step _ hy h1 ih => exact ih.step hy h1

end Go.Proofs.Ytjichaeegheacaa
