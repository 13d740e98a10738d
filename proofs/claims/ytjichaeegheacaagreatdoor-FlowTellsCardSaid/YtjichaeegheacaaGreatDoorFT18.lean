/-
  RefR
-/
import Derived.Test.YtjichaeegheacaaGreatDoorFT17

/-
  The document's answer for package flow: what is reached, round by round. Plain Lean: no program in sight.
-/
namespace Go.Proofs.YtjichaeegheacaaGreatDoor
open Go Go.RowKit

theorem hasN_bit {N : Nat} {j : Nat} (hj : j < 1024) : hasN N (j : Int) = N.testBit j := by
  unfold hasN
  rw [(inR_iff (j : Int)).2 ⟨by omega, by omega⟩, Bool.true_and]
  rfl
def stepE (nt : List Int) (N : Nat) (e : Ed) : Nat := if hasN N e.f && !nt.contains e.t then withI N e.t else N
def roundE (es : List Ed) (nt : List Int) (N : Nat) : Nat := es.foldl (stepE nt) N
def itE (es : List Ed) (nt : List Int) : Nat → Nat → Nat
  | 0, N => N
  | r + 1, N => roundE es nt (itE es nt r N)
/-- One set within another one. -/
def SubN (N M : Nat) : Prop := ∀ j, N.testBit j = true → M.testBit j = true
theorem SubN.refl (N : Nat) : SubN N N := fun _ h => h
theorem SubN.trans {A B C : Nat} (h : SubN A B) (g : SubN B C) : SubN A C := fun j q => g j (h j q)
theorem SubN.anti {A B : Nat} (h : SubN A B) (g : SubN B A) : A = B := by
  apply Nat.eq_of_testBit_eq
  intro j
  cases ha : A.testBit j <;> cases hb : B.testBit j
  · rfl
  · have := g j hb; rw [ha] at this; cases this
  · have := h j ha; rw [hb] at this; cases this
  · rfl
theorem bit_withI {N : Nat} (hN : Sm N) (t : Int) (j : Nat) : (withI N t).testBit j = true ↔ N.testBit j = true ∨ (inR t = true ∧ t = (j : Int)) := by
  by_cases hj : j < 1024
  · rw [testBit_withI N t hj, Bool.or_eq_true, decide_eq_true_iff]
    constructor
    · rintro (h | h)
      · exact .inl h
      · exact .inr ⟨(inR_iff t).2 ⟨by omega, by omega⟩, h⟩
    · rintro (h | ⟨_, h⟩)
      · exact .inl h
      · exact .inr h
  · have h1 := withI_sm t hN j (by omega)
    have h2 := hN j (by omega)
    rw [h1, h2]
    constructor
    · intro h; cases h
    · rintro (h | ⟨h, e⟩)
      · cases h
      · have := (inR_iff t).1 h; omega

/-- What holds of a set on the way. -/
structure RefN (bs : List Blk) (frm nt : List Int) (N : Nat) : Prop where
  sm : Sm N
  lt : ∀ j, N.testBit j = true → j < bs.length
  sound : ∀ j : Nat, N.testBit j = true → Rt (suB bs) bs.length frm nt (j : Int)
  base : ∀ j : Nat, j < bs.length → (j : Int) ∈ frm → (j : Int) ∉ nt → N.testBit j = true

section
variable {bs : List Blk} {frm nt : List Int} (hc : Cl bs)
include hc
theorem RefN.step {N : Nat} (h : RefN bs frm nt N) {e : Ed} (he : e ∈ edgesOf bs) : RefN bs frm nt (stepE nt N e) ∧ SubN N (stepE nt N e) := by
  unfold stepE
  split
  · rename_i hq
    rw [Bool.and_eq_true] at hq
    obtain ⟨q1, q2⟩ := hq
    have hnt : e.t ∉ nt := fun h => by rw [List.contains_iff_mem.2 h] at q2; cases q2
    obtain ⟨o1, s1⟩ := edge_su he
    have o2 := hc.go _ o1 _ s1
    have hb : N.testBit e.f.toNat = true := by
      unfold hasN at q1
      rw [Bool.and_eq_true] at q1
      exact q1.2
    have hrt : Rt (suB bs) bs.length frm nt e.t := by
      have := h.sound _ hb
      rw [show ((e.f.toNat : Nat) : Int) = e.f by have := o1.1; omega] at this
      exact this.step s1 hnt
    have hbit := bit_withI h.sm e.t
    refine ⟨⟨withI_sm _ h.sm, fun j hj => ?_, fun j hj => ?_, fun j h1 h2 h3 => (hbit j).2 (.inl (h.base j h1 h2 h3))⟩, fun j hj => (hbit j).2 (.inl hj)⟩
    · rcases (hbit j).1 hj with q | ⟨_, q⟩
      · exact h.lt j q
      · have := o2.2; omega
    · rcases (hbit j).1 hj with q | ⟨_, q⟩
      · exact h.sound j q
      · rw [← q]; exact hrt
  · exact ⟨h, SubN.refl _⟩
theorem RefN.fold : ∀ (es : List Ed), (∀ e ∈ es, e ∈ edgesOf bs) → ∀ {N : Nat}, RefN bs frm nt N → RefN bs frm nt (roundE es nt N) ∧ SubN N (roundE es nt N)
  | [], _, N, h => ⟨h, SubN.refl _⟩
  | e :: es, he, N, h => by
    obtain ⟨h1, s1⟩ := h.step hc (he e (by simp))
    obtain ⟨h2, s2⟩ := RefN.fold es (fun x hx => he x (by simp [hx])) h1
    exact ⟨h2, s1.trans s2⟩
/-- A round that adds nothing: no edge would. -/
theorem RefN.fixed : ∀ (es : List Ed), (∀ e ∈ es, e ∈ edgesOf bs) → ∀ {N : Nat}, RefN bs frm nt N → roundE es nt N = N → ∀ e ∈ es, stepE nt N e = N
  | [], _, N, _, _, e, h => by cases h
  | x :: es, he, N, h, hf, e, hm => by
    obtain ⟨h1, s1⟩ := h.step hc (he x (by simp))
    obtain ⟨h2, s2⟩ := RefN.fold hc es (fun y hy => he y (by simp [hy])) h1
    have hf' : roundE es nt (stepE nt N x) = N := hf
    have e1 : stepE nt N x = N := SubN.anti (by rw [hf'] at s2; exact s2) s1
    rcases List.mem_cons.1 hm with rfl | hm
    · exact e1
    · rw [e1] at hf'
      exact RefN.fixed es (fun y hy => he y (by simp [hy])) h hf' e hm
omit hc in
theorem cntG_grow {N M : Nat} (h : SubN N M) {b : Nat} : ∀ n, b < n → N.testBit b = false → M.testBit b = true → cntG N n < cntG M n
  | n + 1, hb, h1, h2 => by
    rw [cntG_succ, cntG_succ]
    by_cases e : b = n
    · subst e
      have hm : cntG N b ≤ cntG M b := by
        clear hb h1 h2
        induction b with
        | zero => exact Nat.le_refl _
        | succ n ih =>
          rw [cntG_succ, cntG_succ]
          cases hn : N.testBit n
          · simp; omega
          · rw [h n hn]; simp; omega
      rw [h1, h2]; simp; omega
    · have := cntG_grow h n (by omega) h1 h2
      cases hn : N.testBit n
      · simp; omega
      · rw [h n hn]; simp; omega
omit hc in
theorem cntG_full {N : Nat} : ∀ n, cntG N n = n → ∀ j, j < n → N.testBit j = true
  | n + 1, h, j, hj => by
    rw [cntG_succ] at h
    have hl := cntG_le N n
    cases hn : N.testBit n
    · rw [hn] at h; simp at h; omega
    · rw [hn] at h
      simp at h
      by_cases e : j = n
      · subst e; exact hn
      · exact cntG_full n h j (by omega)
theorem RefN.iter {N : Nat} (h : RefN bs frm nt N) : ∀ r, RefN bs frm nt (itE (edgesOf bs) nt r N) ∧ ((∀ e ∈ edgesOf bs, stepE nt (itE (edgesOf bs) nt r N) e = itE (edgesOf bs) nt r N) ∨ r ≤ cntG (itE (edgesOf bs) nt r N) bs.length)
  | 0 => ⟨h, .inr (Nat.zero_le _)⟩
  | r + 1 => by
    obtain ⟨h1, h2⟩ := RefN.iter h r
    generalize hM : itE (edgesOf bs) nt r N = M at *
    have hs : itE (edgesOf bs) nt (r + 1) N = roundE (edgesOf bs) nt M := by rw [itE, hM]
    rw [hs]
    obtain ⟨g1, g2⟩ := RefN.fold hc (edgesOf bs) (fun _ q => q) h1
    by_cases e : roundE (edgesOf bs) nt M = M
    · rw [e]
      exact ⟨h1, .inl (RefN.fixed hc (edgesOf bs) (fun _ q => q) h1 e)⟩
    · refine ⟨g1, .inr ?_⟩
      rcases h2 with h2 | h2
      · exfalso
        apply e
        have : ∀ es : List Ed, (∀ x ∈ es, x ∈ edgesOf bs) → roundE es nt M = M := fun es => by
          induction es with
          | nil => intro _; rfl
          | cons x es ih =>
            intro hx
            show roundE es nt (stepE nt M x) = M
            rw [h2 x (hx x (by simp))]
            exact ih fun y hy => hx y (by simp [hy])
        exact this _ fun _ q => q
      · obtain ⟨j, hj1, hj2⟩ : ∃ j, M.testBit j = false ∧ (roundE (edgesOf bs) nt M).testBit j = true := by
          by_cases hex : ∃ j, M.testBit j = false ∧ (roundE (edgesOf bs) nt M).testBit j = true
          · exact hex
          · refine absurd (SubN.anti (fun j hj => ?_) g2) e
            cases hm : M.testBit j with
            | true => rfl
            | false => exact absurd ⟨j, hm, hj⟩ hex
        have := cntG_grow g2 bs.length (g1.lt j hj2) hj1 hj2
        omega
/-- After as many rounds as there are blocks it is what is reached. -/
theorem RefN.done {N : Nat} (h : RefN bs frm nt N) : RSet bs frm nt (itE (edgesOf bs) nt bs.length N) := by
  obtain ⟨h1, h2⟩ := h.iter hc bs.length
  generalize itE (edgesOf bs) nt bs.length N = M at *
  have hfix : ∀ e ∈ edgesOf bs, stepE nt M e = M := by
    rcases h2 with h2 | h2
    · exact h2
    · have hfull := cntG_full bs.length (Nat.le_antisymm (cntG_le M bs.length) h2)
      intro e he
      obtain ⟨g1, g2⟩ := h1.step hc he
      exact (SubN.anti g2 fun j hj => hfull j (g1.lt j hj)).symm
  refine ⟨h1.sm, fun j => ⟨h1.sound j, fun hr => ?_⟩⟩
  have key : ∀ x, Rt (suB bs) bs.length frm nt x → okB bs x ∧ M.testBit x.toNat = true := by
    intro x hx
    induction hx with
    | @base x a b c d =>
      refine ⟨⟨c, d⟩, h1.base x.toNat (by omega) ?_ ?_⟩
      · rw [show ((x.toNat : Nat) : Int) = x by omega]; exact a
      · rw [show ((x.toNat : Nat) : Int) = x by omega]; exact b
    | @step x y _ hy hn ih =>
      obtain ⟨o1, b1⟩ := ih
      have o2 := hc.go _ o1 _ hy
      have hle := hc.le
      refine ⟨o2, ?_⟩
      obtain ⟨e, he, e1, e2⟩ := su_edge hy
      have hs := hfix e he
      unfold stepE at hs
      rw [if_pos (by
        rw [e1, e2, Bool.and_eq_true]
        refine ⟨?_, ?_⟩
        · unfold hasN
          rw [(inR_iff x).2 ⟨o1.1, by have := o1.2; omega⟩, Bool.true_and]; exact b1
        · cases hq : nt.contains y with
          | false => rfl
          | true => exact absurd (List.contains_iff_mem.1 hq) hn), e2] at hs
      rw [← hs]
      exact (bit_withI h1.sm y _).2 (.inr ⟨(inR_iff y).2 ⟨o2.1, by have := o2.2; omega⟩, by have := o2.1; omega⟩)
  have := (key _ hr).2
  simpa using this
end
theorem RSet.unique {bs : List Blk} {frm nt : List Int} {R R' : Nat} (h : RSet bs frm nt R) (g : RSet bs frm nt R') : R = R' :=
  SubN.anti (fun j hj => (g.has j).2 ((h.has j).1 hj)) (fun j hj => (h.has j).2 ((g.has j).1 hj))
theorem upTo_high {N n m : Nat} (h : ∀ j, N.testBit j = true → j < n) (hm : n ≤ m) : upTo N m = upTo N n := by
  obtain ⟨d, rfl⟩ : ∃ d, m = n + d := ⟨m - n, by omega⟩
  exact upTo_skip N d fun j h1 _ => by
    cases hb : N.testBit j with
    | false => rfl
    | true => have := h j hb; omega

end Go.Proofs.YtjichaeegheacaaGreatDoor
