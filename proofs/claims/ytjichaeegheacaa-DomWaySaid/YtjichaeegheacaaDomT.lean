
/-
  Immediate dominators by places in reverse postorder: the tree as it is made anew, pass by pass; that the passes end; what they end in. Plain Lean: no program in sight.
-/
import Derived.Test.YtjichaeegheacaaSets
namespace Go.Proofs.Ytjichaeegheacaa
open Go

/-- A tree by places: over each place one ahead of it; none: not yet. -/
abbrev PTree := Nat → Option Nat
def Dn (T : PTree) (i : Nat) : Prop := i = 0 ∨ ∃ j, T i = some j
/-- It goes down, and it goes on. -/
structure WfT (T : PTree) : Prop where
  lt : ∀ i j, T i = some j → j < i
  on : ∀ i j, T i = some j → Dn T j
theorem WfT.root {T : PTree} (h : WfT T) : T 0 = none := by
  cases hq : T 0 with
  | none => rfl
  | some j => exact absurd (h.lt 0 j hq) (Nat.not_lt_zero _)

/-- d stands over i, or is it. -/
inductive An (T : PTree) : Nat → Nat → Prop
  | refl (i : Nat) : An T i i
  | step {i j d : Nat} : T i = some j → An T j d → An T i d
theorem An.le {T : PTree} (hT : WfT T) {i d : Nat} (h : An T i d) : d ≤ i := by
  induction h with
  | refl => exact Nat.le_refl _
  | step hj _ ih => exact Nat.le_trans ih (Nat.le_of_lt (hT.lt _ _ hj))
theorem An.trans {T : PTree} {i j d : Nat} (h : An T i j) (k : An T j d) : An T i d := by
  induction h with
  | refl => exact k
  | step hj _ ih => exact .step hj (ih k)
theorem An.inv {T : PTree} {i j d : Nat} (h : An T i d) (hj : T i = some j) (hne : d ≠ i) : An T j d := by
  cases h with
  | refl => exact absurd rfl hne
  | step hk h => rw [hj] at hk; cases hk; exact h
theorem An.none {T : PTree} {i d : Nat} (h : An T i d) (hj : T i = none) : d = i := by
  cases h with
  | refl => rfl
  | step hk _ => rw [hj] at hk; cases hk
/-- Two on one chain. -/
theorem An.both {T : PTree} (hT : WfT T) {i z y : Nat} (h : An T i z) (k : An T i y) (hle : y ≤ z) : An T z y := by
  induction h with
  | refl => exact k
  | @step i j d hj h1 ih =>
    have hz := h1.le hT
    have hlt := hT.lt _ _ hj
    exact ih (k.inv hj (by omega)) hle

/-- The last one over two. -/
def meetF (T : PTree) : Nat → Nat → Nat → Nat
  | 0, i, _ => i
  | f + 1, i, j => if i = j then i else if j < i then meetF T f ((T i).getD 0) j else meetF T f i ((T j).getD 0)
theorem meetF_spec {T : PTree} (hT : WfT T) : ∀ (f i j : Nat), i + j ≤ f → Dn T i → Dn T j → Dn T (meetF T f i j) ∧ meetF T f i j ≤ i ∧ meetF T f i j ≤ j ∧ ∀ d, An T (meetF T f i j) d ↔ An T i d ∧ An T j d := by
  intro f
  induction f with
  | zero =>
    intro i j h hi hj
    have e1 : i = 0 := by omega
    have e2 : j = 0 := by omega
    subst e1 e2
    exact ⟨hi, Nat.le_refl _, Nat.le_refl _, fun d => by simp [meetF]⟩
  | succ f ih =>
    intro i j h hi hj
    unfold meetF
    by_cases e : i = j
    · subst e
      rw [if_pos rfl]
      exact ⟨hi, Nat.le_refl _, Nat.le_refl _, fun d => by simp⟩
    · rw [if_neg e]
      by_cases hlt : j < i
      · rw [if_pos hlt]
        obtain ⟨i', hi'⟩ : ∃ i', T i = some i' := hi.resolve_left (by omega)
        rw [hi']
        have hl := hT.lt _ _ hi'
        obtain ⟨h1, h2, h3, h4⟩ := ih i' j (by omega) (hT.on _ _ hi') hj
        refine ⟨h1, by simp only [Option.getD_some]; omega, h3, fun d => ?_⟩
        simp only [Option.getD_some]
        rw [h4]
        constructor
        · rintro ⟨a, b⟩; exact ⟨.step hi' a, b⟩
        · rintro ⟨a, b⟩
          have := b.le hT
          exact ⟨a.inv hi' (by omega), b⟩
      · rw [if_neg hlt]
        obtain ⟨j', hj'⟩ : ∃ j', T j = some j' := hj.resolve_left (by omega)
        rw [hj']
        have hl := hT.lt _ _ hj'
        obtain ⟨h1, h2, h3, h4⟩ := ih i j' (by omega) hi (hT.on _ _ hj')
        refine ⟨h1, h2, by simp only [Option.getD_some]; omega, fun d => ?_⟩
        simp only [Option.getD_some]
        rw [h4]
        constructor
        · rintro ⟨a, b⟩; exact ⟨a, .step hj' b⟩
        · rintro ⟨a, b⟩
          have := a.le hT
          exact ⟨a, b.inv hj' (by omega)⟩

/-- What a block's place is given: the last one over all those ahead of it that are done. -/
def doneB (T : PTree) (a : Nat) : Bool := a == 0 || (T a).isSome
theorem doneB_iff {T : PTree} {a : Nat} : doneB T a = true ↔ Dn T a := by
  unfold doneB Dn
  rw [Bool.or_eq_true, beq_iff_eq, Option.isSome_iff_exists]
def stepU (T : PTree) (acc : Option Nat) (a : Nat) : Option Nat :=
  if doneB T a then (match acc with | none => some a | some u => some (meetF T (u + a) u a)) else acc
def overU (T : PTree) (P : List Nat) : Option Nat := P.foldl (stepU T) none

/-- What an accumulator knows of those that are gone through. -/
structure AccOk (T : PTree) (P : List Nat) (acc : Option Nat) : Prop where
  nn : (∃ a ∈ P, Dn T a) → ∃ k, acc = some k
  dn : ∀ k, acc = some k → Dn T k
  ex : ∀ k, acc = some k → ∃ a ∈ P, Dn T a
  le : ∀ k, acc = some k → ∀ a ∈ P, Dn T a → k ≤ a
  an : ∀ k, acc = some k → ∀ d, An T k d ↔ ∀ a ∈ P, Dn T a → An T a d
theorem AccOk.nil (T : PTree) : AccOk T [] none where
  nn := fun ⟨_, h, _⟩ => absurd h List.not_mem_nil
  dn := fun _ h => by cases h
  ex := fun _ h => by cases h
  le := fun _ h => by cases h
  an := fun _ h => by cases h
theorem AccOk.snoc {T : PTree} (hT : WfT T) {P : List Nat} {acc : Option Nat} (h : AccOk T P acc) (a : Nat) : AccOk T (P ++ [a]) (stepU T acc a) := by
  unfold stepU
  by_cases hd : doneB T a = true
  · rw [if_pos hd]
    have hdn := doneB_iff.1 hd
    cases acc with
    | none =>
      have hno : ∀ x ∈ P, ¬ Dn T x := fun x hx hx2 => by obtain ⟨k, hk⟩ := h.nn ⟨x, hx, hx2⟩; cases hk
      refine ⟨fun _ => ⟨a, rfl⟩, fun k e => by cases e; exact hdn, fun k e => ⟨a, by simp, hdn⟩, fun k e x hx hx2 => ?_, fun k e d => ?_⟩
      · cases e
        rcases List.mem_append.1 hx with hx | hx
        · exact absurd hx2 (hno x hx)
        · simp at hx; subst hx; exact Nat.le_refl _
      · cases e
        constructor
        · intro ha x hx hx2
          rcases List.mem_append.1 hx with hx | hx
          · exact absurd hx2 (hno x hx)
          · simp at hx; subst hx; exact ha
        · intro ha; exact ha a (by simp) hdn
    | some u =>
      obtain ⟨m1, m2, m3, m4⟩ := meetF_spec hT (u + a) u a (Nat.le_refl _) (h.dn u rfl) hdn
      refine ⟨fun _ => ⟨_, rfl⟩, fun k e => by cases e; exact m1, fun k e => ⟨a, by simp, hdn⟩, fun k e x hx hx2 => ?_, fun k e d => ?_⟩
      · cases e
        rcases List.mem_append.1 hx with hx | hx
        · exact Nat.le_trans m2 (h.le u rfl x hx hx2)
        · simp at hx; subst hx; exact m3
      · cases e
        rw [m4, h.an u rfl]
        constructor
        · rintro ⟨ha, hb⟩ x hx hx2
          rcases List.mem_append.1 hx with hx | hx
          · exact ha x hx hx2
          · simp at hx; subst hx; exact hb
        · intro ha
          exact ⟨fun x hx hx2 => ha x (List.mem_append_left _ hx) hx2, ha a (by simp) hdn⟩
  · rw [if_neg hd]
    have hnd : ¬ Dn T a := fun e => hd (doneB_iff.2 e)
    refine ⟨fun ⟨x, hx, hx2⟩ => ?_, h.dn, fun k e => ?_, fun k e x hx hx2 => ?_, fun k e d => ?_⟩
    · rcases List.mem_append.1 hx with hx | hx
      · exact h.nn ⟨x, hx, hx2⟩
      · simp at hx; subst hx; exact absurd hx2 hnd
    · obtain ⟨x, hx, hx2⟩ := h.ex k e
      exact ⟨x, List.mem_append_left _ hx, hx2⟩
    · rcases List.mem_append.1 hx with hx | hx
      · exact h.le k e x hx hx2
      · simp at hx; subst hx; exact absurd hx2 hnd
    · rw [h.an k e]
      constructor
      · intro ha x hx hx2
        rcases List.mem_append.1 hx with hx | hx
        · exact ha x hx hx2
        · simp at hx; subst hx; exact absurd hx2 hnd
      · intro ha x hx hx2; exact ha x (List.mem_append_left _ hx) hx2
theorem overU_snoc (T : PTree) (P : List Nat) (a : Nat) : overU T (P ++ [a]) = stepU T (overU T P) a := by unfold overU; rw [List.foldl_append]; rfl
theorem overU_ok {T : PTree} (hT : WfT T) (P : List Nat) : AccOk T P (overU T P) := by
  have : ∀ Q R : List Nat, AccOk T Q (overU T Q) → AccOk T (Q ++ R) (overU T (Q ++ R)) := by
    intro Q R
    induction R generalizing Q with
    | nil => intro h; rw [List.append_nil]; exact h
    | cons a R ih =>
      intro h
      have := ih (Q ++ [a]) (by rw [overU_snoc]; exact h.snoc hT a)
      simpa using this
  simpa using this [] P (AccOk.nil T)

/-- Those ahead of a place already made anew, the others as they were. -/
def mixT (j : Nat) (N T : PTree) : PTree := fun i => if i < j then N i else T i
/-- One pass over the places 1 to m - 1. -/
def Pass (P : Nat → List Nat) (m : Nat) (T N : PTree) : Prop := N 0 = none ∧ ∀ j, 1 ≤ j → j < m → N j = overU (mixT j N T) (P j)

/-- The graph: each place but 0 has one ahead of it from which an edge comes. -/
structure GraphP (P : Nat → List Nat) (m : Nat) : Prop where
  par : ∀ i, 1 ≤ i → i < m → ∃ a ∈ P i, a < i
  lt : ∀ i, i < m → ∀ a ∈ P i, a < m

/-- There is a way from 0 that does not come through d. -/
inductive Av (P : Nat → List Nat) (m d : Nat) : Nat → Prop
  | zero : 0 ≠ d → Av P m d 0
  | step {a i : Nat} : Av P m d a → i < m → a ∈ P i → i ≠ d → Av P m d i
theorem Av.pred {P : Nat → List Nat} {m d i a : Nat} (h : ¬ Av P m d i) (hi : i < m) (ha : a ∈ P i) (hne : i ≠ d) : ¬ Av P m d a := fun q => h (.step q hi ha hne)

/-- What dominates a place dominates what stands over it. -/
def DomUp (P : Nat → List Nat) (m : Nat) (T : PTree) : Prop := ∀ i j, i < m → T i = some j → ∀ d, ¬ Av P m d i → d ≠ i → ¬ Av P m d j

section
variable {P : Nat → List Nat} {m : Nat}
theorem dom_an {T : PTree} (hT : WfT T) (hI : DomUp P m T) : ∀ (a d : Nat), a < m → Dn T a → ¬ Av P m d a → An T a d := by
  intro a
  induction a using Nat.strongRecOn with
  | _ a ih =>
    intro d ha hd hav
    by_cases e : d = a
    · subst e; exact .refl _
    · by_cases h0 : a = 0
      · subst h0; exact absurd (Av.zero (fun q => e q.symm)) hav
      · obtain ⟨j, hj⟩ := hd.resolve_left h0
        have hlt := hT.lt _ _ hj
        exact .step hj (ih j hlt d (by omega) (hT.on _ _ hj) (hI a j ha hj d hav e))
theorem dom_down {T : PTree} (hT : WfT T) (hI : DomUp P m T) {a k d : Nat} (h : An T a k) (hk : An T k d) : a < m → ¬ Av P m d a → ¬ Av P m d k := by
  induction h with
  | refl => intro _ h; exact h
  | @step i j e hj h1 ih =>
    intro ha hav
    have h2 := hk.le hT
    have h3 := h1.le hT
    have h4 := hT.lt _ _ hj
    exact ih hk (by omega) (hI i j ha hj d hav (by omega))

/-- One update keeps it. -/
theorem domUp_over {T : PTree} (hG : GraphP P m) (hT : WfT T) (hI : DomUp P m T) {i k : Nat} (hi : i < m) (hk : overU T (P i) = some k) : ∀ d, ¬ Av P m d i → d ≠ i → ¬ Av P m d k := by
  intro d hav hne
  have hok := overU_ok hT (P i)
  obtain ⟨a, ha, had⟩ := hok.ex k hk
  have hall : ∀ a ∈ P i, Dn T a → An T a d := fun a ha had => dom_an hT hI a d (hG.lt i hi a ha) had (Av.pred hav hi ha (fun e => hne e.symm))
  have hkd := (hok.an k hk d).2 hall
  have hak := (hok.an k hk k).1 (.refl k) a ha had
  exact dom_down hT hI hak hkd (hG.lt i hi a ha) (Av.pred hav hi ha (fun e => hne e.symm))

/-- What a pass ends in that moves nothing. -/
theorem dom_fix {T : PTree} (hG : GraphP P m) (hT : WfT T) (hI : DomUp P m T) (hf : ∀ j, 1 ≤ j → j < m → T j = overU T (P j)) : (∀ i, i < m → Dn T i) ∧ ∀ i d, i < m → (An T i d ↔ ¬ Av P m d i) := by
  have hdn : ∀ i, i < m → Dn T i := by
    intro i
    induction i using Nat.strongRecOn with
    | _ i ih =>
      intro hi
      by_cases h0 : i = 0
      · exact .inl h0
      · obtain ⟨a, ha, hlt⟩ := hG.par i (by omega) hi
        obtain ⟨k, hk⟩ := (overU_ok hT (P i)).nn ⟨a, ha, ih a hlt (by omega)⟩
        exact .inr ⟨k, by rw [hf i (by omega) hi, hk]⟩
  refine ⟨hdn, fun i d hi => ⟨fun han hav => ?_, fun hav => dom_an hT hI i d hi (hdn i hi) hav⟩⟩
  induction hav with
  | zero h => exact h (han.none hT.root).symm
  | @step a i hav hi2 ha hne ih =>
    have h0 : 1 ≤ i := by
      by_cases e : i = 0
      · subst e
        exact absurd (han.none hT.root).symm hne
      · omega
    have ham := hG.lt i hi2 a ha
    obtain ⟨k, hk⟩ := (hdn i hi2).resolve_left (by omega)
    have hkd := han.inv hk (fun e => hne e.symm)
    have := hf i h0 hi2
    rw [hk] at this
    exact ih ham (((overU_ok hT (P i)).an k this.symm d).1 hkd a ha (hdn a ham))

/- The passes. -/
theorem mix_lt {j : Nat} {N T : PTree} {i : Nat} (h : i < j) : mixT j N T i = N i := if_pos h
theorem mix_ge {j : Nat} {N T : PTree} {i : Nat} (h : j ≤ i) : mixT j N T i = T i := if_neg (by omega)
theorem an_mix_lt {j : Nat} {N T : PTree} (hN : ∀ i k, i < j → N i = some k → k < i) {i d : Nat} (h : i < j) : An (mixT j N T) i d ↔ An N i d := by
  constructor
  · intro ha
    induction ha with
    | refl => exact .refl _
    | @step i k d hk _ ih =>
      rw [mix_lt h] at hk
      have := hN i k h hk
      exact .step hk (ih (by omega))
  · intro ha
    induction ha with
    | refl => exact .refl _
    | @step i k d hk _ ih =>
      have := hN i k h hk
      exact .step (by rw [mix_lt h]; exact hk) (ih (by omega))

/-- How things stand at the start of each pass. -/
structure Start (P : Nat → List Nat) (m : Nat) (T : PTree) : Prop where
  wf : WfT T
  up : DomUp P m T
  out : ∀ i, m ≤ i → T i = none
  st : (∀ i, T i = none) ∨ ((∀ i, i < m → Dn T i) ∧ (∀ i, 1 ≤ i → i < m → ∀ p ∈ P i, p < i → ∀ d, An T i d → d ≠ i → An T p d) ∧
    ∀ i, 1 ≤ i → i < m → ∀ d, d < i → (∀ a ∈ P i, An T a d) → An T i d)

/-- The mixed trees are well made. -/
theorem pass_wf {T N : PTree} (hG : GraphP P m) (hS : Start P m T) (hP : Pass P m T N) : ∀ j, j ≤ m → WfT (mixT j N T) ∧ DomUp P m (mixT j N T) ∧ (∀ i, i < j → Dn N i) ∧ ∀ i k, i < j → N i = some k → k < i := by
  intro j
  induction j with
  | zero =>
    intro _
    have e : mixT 0 N T = T := by funext i; exact mix_ge (Nat.zero_le _)
    rw [e]
    exact ⟨hS.wf, hS.up, fun i hi => absurd hi (Nat.not_lt_zero _), fun i k hi => absurd hi (Nat.not_lt_zero _)⟩
  | succ j ih =>
    intro hj
    obtain ⟨w, u, dn, lt⟩ := ih (by omega)
    by_cases h0 : j = 0
    · subst h0
      have e : mixT 1 N T = mixT 0 N T := by
        funext i
        by_cases hi : i = 0
        · subst hi; rw [mix_lt (by omega), mix_ge (by omega), hP.1, hS.wf.root]
        · rw [mix_ge (by omega), mix_ge (by omega)]
      rw [e]
      refine ⟨w, u, fun i hi => .inl (by omega), fun i k hi hk => ?_⟩
      have : i = 0 := by omega
      subst this
      rw [hP.1] at hk; cases hk
    · have hNj := hP.2 j (by omega) (by omega)
      have hok := overU_ok w (P j)
      obtain ⟨p, hp, hpl⟩ := hG.par j (by omega) (by omega)
      have hpd : Dn (mixT j N T) p := by
        rcases dn p hpl with h | ⟨x, hx⟩
        · exact .inl h
        · exact .inr ⟨x, by rw [mix_lt hpl]; exact hx⟩
      obtain ⟨k, hk⟩ := hok.nn ⟨p, hp, hpd⟩
      have hkl : k < j := Nat.lt_of_le_of_lt (hok.le k hk p hp hpd) hpl
      rw [hk] at hNj
      have hagree : ∀ i, i ≠ j → mixT (j + 1) N T i = mixT j N T i := fun i hi => by
        by_cases h : i < j
        · rw [mix_lt (by omega), mix_lt h]
        · rw [mix_ge (by omega), mix_ge (by omega)]
      have hat : mixT (j + 1) N T j = some k := by rw [mix_lt (by omega)]; exact hNj
      have hdn : ∀ i, Dn (mixT j N T) i → Dn (mixT (j + 1) N T) i := fun i hi => by
        by_cases e : i = j
        · subst e; exact .inr ⟨k, hat⟩
        · rcases hi with h | ⟨x, hx⟩
          · exact .inl h
          · exact .inr ⟨x, by rw [hagree i e]; exact hx⟩
      refine ⟨⟨fun i x hx => ?_, fun i x hx => ?_⟩, fun i x hi hx => ?_, fun i hi => ?_, fun i x hi hx => ?_⟩
      · by_cases e : i = j
        · subst e; rw [hat] at hx; cases hx; exact hkl
        · rw [hagree i e] at hx; exact w.lt i x hx
      · by_cases e : i = j
        · subst e; rw [hat] at hx; cases hx; exact hdn _ (hok.dn k hk)
        · rw [hagree i e] at hx; exact hdn _ (w.on i x hx)
      · by_cases e : i = j
        · subst e; rw [hat] at hx; cases hx; exact domUp_over hG w u hi hk
        · rw [hagree i e] at hx; exact u i x hi hx
      · by_cases e : i = j
        · subst e; exact .inr ⟨k, hNj⟩
        · exact dn i (by omega)
      · by_cases e : i = j
        · subst e; rw [hNj] at hx; cases hx; exact hkl
        · exact lt i x (by omega) hx

/-- What stands over a place behind a pass: what stood over all that goes to it. -/
theorem pass_step {T N : PTree} (hG : GraphP P m) (hS : Start P m T) (hP : Pass P m T N) {i : Nat} (h1 : 1 ≤ i) (hi : i < m) :
    ∃ k, N i = some k ∧ k < i ∧ ∀ d, An N k d ↔ ∀ a ∈ P i, Dn (mixT i N T) a → An (mixT i N T) a d := by
  obtain ⟨w, u, dn, lt⟩ := pass_wf hG hS hP i (by omega)
  obtain ⟨_, _, dn2, lt2⟩ := pass_wf hG hS hP (i + 1) (by omega)
  obtain ⟨k, hk⟩ := (dn2 i (by omega)).resolve_left (by omega)
  have hkl := lt2 i k (by omega) hk
  refine ⟨k, hk, hkl, fun d => ?_⟩
  have := hP.2 i h1 hi
  rw [hk] at this
  rw [← (overU_ok w (P i)).an k this.symm d, an_mix_lt lt hkl]

theorem mix_all {T N : PTree} (hS : Start P m T) (hN : ∀ i, m ≤ i → N i = none) : mixT m N T = N := by
  funext i
  by_cases h : i < m
  · exact mix_lt h
  · rw [mix_ge (by omega), hS.out i (by omega), hN i (by omega)]

/-- Behind a pass: the next start; nothing has moved down. -/
theorem pass_next {T N : PTree} (hG : GraphP P m) (hS : Start P m T) (hP : Pass P m T N) (hN : ∀ i, m ≤ i → N i = none) : Start P m N ∧ ∀ i j, T i = some j → ∃ k, N i = some k ∧ k ≤ j := by
  obtain ⟨w, u, dn, lt⟩ := pass_wf hG hS hP m (Nat.le_refl _)
  rw [mix_all hS hN] at w u
  have hst := fun i h1 hi => pass_step hG hS hP (i := i) h1 hi
  have hlt : ∀ i k, i < m → N i = some k → k < i := lt
  have hQ : ∀ i, 1 ≤ i → i < m → ∀ p ∈ P i, p < i → ∀ d, An N i d → d ≠ i → An N p d := fun i h1 hi p hp hpl d hd hne => by
    obtain ⟨k, hk, hkl, han⟩ := hst i h1 hi
    have hkd := hd.inv hk hne
    have hpd : Dn (mixT i N T) p := by
      rcases dn p (by omega) with h | ⟨x, hx⟩
      · exact .inl h
      · exact .inr ⟨x, by rw [mix_lt hpl]; exact hx⟩
    exact (an_mix_lt (fun x y hx => lt x y (by omega)) hpl).1 ((han d).1 hkd p hp hpd)
  have hpar := hG.par
  rcases hS.st with hno | ⟨hdT, hQT, hMT⟩
  · refine ⟨⟨w, u, hN, .inr ⟨dn, hQ, fun i h1 hi d hdi hall => ?_⟩⟩, fun i j hj => by rw [hno i] at hj; cases hj⟩
    obtain ⟨k, hk, hkl, han⟩ := hst i h1 hi
    refine .step hk ((han d).2 fun a ha had => ?_)
    have hai : a < i := by
      by_cases h : a < i
      · exact h
      · rcases had with h0 | ⟨x, hx⟩
        · omega
        · rw [mix_ge (by omega), hno a] at hx; cases hx
    exact (an_mix_lt (fun x y hx => lt x y (by omega)) hai).2 (hall a ha)
  · have hmd : ∀ i a, a < m → Dn (mixT i N T) a := fun i a ha => by
      by_cases h : a < i
      · rcases dn a ha with h0 | ⟨x, hx⟩
        · exact .inl h0
        · exact .inr ⟨x, by rw [mix_lt h]; exact hx⟩
      · rcases hdT a ha with h0 | ⟨x, hx⟩
        · exact .inl h0
        · exact .inr ⟨x, by rw [mix_ge (by omega)]; exact hx⟩
    -- the chains have not grown
    have hsub : ∀ i, i < m → ∀ d, An N i d → An T i d := by
      intro i
      induction i using Nat.strongRecOn with
      | _ i ih =>
        intro hi d hd
        by_cases e : d = i
        · subst e; exact .refl _
        · have h1 : 1 ≤ i := by
            by_cases h0 : i = 0
            · subst h0; exact absurd (hd.none hP.1) e
            · omega
          obtain ⟨k, hk, hkl, han⟩ := hst i h1 hi
          have hkd := hd.inv hk e
          have hdk := hkd.le w
          refine hMT i h1 hi d (by omega) fun a ha => ?_
          have ham := hG.lt i hi a ha
          have hmx := (han d).1 hkd a ha (hmd i a ham)
          have gen : ∀ a d, An (mixT i N T) a d → a < m → An T a d := by
            intro a d hq
            induction hq with
            | refl => intro _; exact .refl _
            | @step x y d hxy hr ih2 =>
              intro hxm
              by_cases hxi : x < i
              · exact ih x hxi hxm d ((an_mix_lt (fun x y hx => lt x y (by omega)) hxi).1 (.step hxy hr))
              · rw [mix_ge (by omega)] at hxy
                have := hS.wf.lt _ _ hxy
                exact .step hxy (ih2 (by omega))
          exact gen a d hmx ham
    have hkey : ∀ a, a < m → ∀ z y, An T a z → An T z y → An N a y → An N z y := by
      intro a
      induction a using Nat.strongRecOn with
      | _ a ih =>
        intro ha z y haz hzy hay
        by_cases e : z = a
        · subst e; exact hay
        · have hza := haz.le hS.wf
          have hyz := hzy.le hS.wf
          obtain ⟨p, hp, hpl⟩ := hpar a (by omega) ha
          exact ih p hpl (by omega) z y (hQT a (by omega) ha p hp hpl z haz e) hzy (hQ a (by omega) ha p hp hpl y hay (by omega))
    refine ⟨⟨w, u, hN, .inr ⟨dn, hQ, fun i h1 hi d hdi hall => ?_⟩⟩, fun i j hj => ?_⟩
    · obtain ⟨k, hk, hkl, han⟩ := hst i h1 hi
      refine .step hk ((han d).2 fun a ha had => ?_)
      have ham := hG.lt i hi a ha
      have haN := hall a ha
      by_cases hai : a < i
      · exact (an_mix_lt (fun x y hx => lt x y (by omega)) hai).2 haN
      · have haT := hsub a ham d haN
        have gen : ∀ a d, An T a d → a < m → d < i → ∃ z, z < i ∧ An T a z ∧ An T z d ∧ ∀ y, An N z y → An (mixT i N T) a y := by
          intro a d hq
          induction hq with
          | @refl x =>
            intro _ hx
            exact ⟨x, hx, .refl _, .refl _, fun y hy => (an_mix_lt (fun x y hx => lt x y (by omega)) hx).2 hy⟩
          | @step x y d hxy hr ih2 =>
            intro hxm hdi
            by_cases hxi : x < i
            · exact ⟨x, hxi, .refl _, .step hxy hr, fun y hy => (an_mix_lt (fun x y hx => lt x y (by omega)) hxi).2 hy⟩
            · have := hS.wf.lt _ _ hxy
              obtain ⟨z, z1, z2, z3, z4⟩ := ih2 (by omega) hdi
              exact ⟨z, z1, .step hxy z2, z3, fun y hy => .step (by rw [mix_ge (by omega)]; exact hxy) (z4 y hy)⟩
        obtain ⟨z, z1, z2, z3, z4⟩ := gen a d haT ham hdi
        exact z4 d (hkey a ham z d z2 z3 haN)
    · by_cases hi : i < m
      · have h1 : 1 ≤ i := by
          by_cases h0 : i = 0
          · subst h0; rw [hS.wf.root] at hj; cases hj
          · omega
        obtain ⟨k, hk, hkl, _⟩ := hst i h1 hi
        refine ⟨k, hk, ?_⟩
        have h2 := (hsub i hi k (.step hk (.refl _))).inv hj (by omega)
        exact h2.le hS.wf
      · rw [hS.out i (by omega)] at hj; cases hj

/-- What falls from pass to pass. -/
def weigh (m : Nat) (T : PTree) : Nat → Nat
  | 0 => 0
  | i + 1 => weigh m T i + (match T i with | some j => j | none => m)
theorem weigh_le {T N : PTree} (hN : ∀ i k, N i = some k → k < m) (h : ∀ i j, T i = some j → ∃ k, N i = some k ∧ k ≤ j) : ∀ n, weigh m N n ≤ weigh m T n
  | 0 => Nat.le_refl _
  | n + 1 => by
    have := weigh_le hN h n
    unfold weigh
    cases hT : T n with
    | some j =>
      obtain ⟨k, hk, hle⟩ := h n j hT
      rw [hk]; simp only; omega
    | none =>
      cases hq : N n with
      | none => simp only; omega
      | some k => have := hN n k hq; simp only; omega
theorem weigh_lt {T N : PTree} (hN : ∀ i k, N i = some k → k < m) (h : ∀ i j, T i = some j → ∃ k, N i = some k ∧ k ≤ j) {x : Nat} (hx : T x ≠ N x) : ∀ n, x < n → weigh m N n < weigh m T n
  | 0, hn => absurd hn (Nat.not_lt_zero _)
  | n + 1, hn => by
    by_cases e : x = n
    · subst e
      have := weigh_le hN h x
      unfold weigh
      cases hT : T x with
      | some j =>
        obtain ⟨k, hk, hle⟩ := h x j hT
        have hne : k ≠ j := fun e => hx (by rw [hT, hk, e])
        rw [hk]; simp only; omega
      | none =>
        cases hq : N x with
        | none => exact absurd (hT.trans hq.symm) hx
        | some k => have := hN x k hq; simp only; omega
    · have := weigh_lt hN h hx n (by omega)
      unfold weigh
      cases hT : T n with
      | some j =>
        obtain ⟨k, hk, hle⟩ := h n j hT
        rw [hk]; simp only; omega
      | none =>
        cases hq : N n with
        | none => simp only; omega
        | some k => have := hN n k hq; simp only; omega
end

end Go.Proofs.Ytjichaeegheacaa
