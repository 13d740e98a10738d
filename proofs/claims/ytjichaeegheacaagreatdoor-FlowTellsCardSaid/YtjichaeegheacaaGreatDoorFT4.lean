/-
  Dfs Graph
-/
import Derived.Test.YtjichaeegheacaaGreatDoorFT1
import Derived.Test.YtjichaeegheacaaGreatDoorFT3

/- Dfs -/
/-
  Going through a graph in depth: what is gone through, what is put, in reverse postorder. Plain Lean: no program in sight.
-/
namespace Go.Proofs.YtjichaeegheacaaGreatDoor
open Go

/-- Is a number in a set? -/
def hasN (G : Nat) (b : Int) : Bool := inR b && G.testBit b.toNat
theorem hasN_with {G : Nat} {b : Int} (hb : inR b = true) (x : Int) : hasN (withI G b) x = true ↔ hasN G x = true ∨ x = b := by
  unfold hasN
  by_cases hx : inR x = true
  · have hx' := (inR_iff x).1 hx
    rw [hx, testBit_withI _ _ (by omega)]
    simp
    constructor
    · rintro (h | h)
      · exact .inl h
      · exact .inr (by omega)
    · rintro (h | h)
      · exact .inl h
      · exact .inr (by omega)
  · simp only [hx, Bool.false_and, Bool.false_eq_true, false_or, false_iff]
    rintro rfl
    exact hx hb

/-- What is gone through, and what is put. -/
structure St where
  G : Nat
  L : List Int

/-- Going through some blocks, one after another. -/
inductive Thr (su : Int → List Int) : List Int → St → St → Prop
  | nil (s : St) : Thr su [] s s
  | skip {b : Int} {bs : List Int} {s s' : St} : hasN s.G b = true → Thr su bs s s' → Thr su (b :: bs) s s'
  | go {b : Int} {bs : List Int} {s s1 s' : St} : hasN s.G b = false → Thr su (su b) ⟨withI s.G b, s.L⟩ s1 → Thr su bs ⟨s1.G, b :: s1.L⟩ s' → Thr su (b :: bs) s s'

theorem Thr.append {su : Int → List Int} {l1 l2 : List Int} {s s1 s2 : St} (h1 : Thr su l1 s s1) (h2 : Thr su l2 s1 s2) : Thr su (l1 ++ l2) s s2 := by
  induction h1 with
  | nil s => exact h2
  | skip hb _ ih => exact .skip hb (ih h2)
  | go hb hi _ _ ih => exact .go hb hi (ih h2)

theorem Thr.det {su : Int → List Int} {l : List Int} {s a : St} (h1 : Thr su l s a) : ∀ {b : St}, Thr su l s b → a = b := by
  induction h1 with
  | nil s => intro b h; cases h; rfl
  | skip hb _ ih =>
    intro c h
    cases h with
    | skip _ h => exact ih h
    | go hb' _ _ => rw [hb] at hb'; cases hb'
  | go hb hi hr ih1 ih2 =>
    intro c h
    cases h with
    | skip hb' _ => rw [hb] at hb'; cases hb'
    | go _ hi' hr' =>
      have := ih1 hi'
      subst this
      exact ih2 hr'

/-- There is a way. -/
inductive Way (su : Int → List Int) : Int → Int → Prop
  | refl (x : Int) : Way su x x
  | step {x y z : Int} : Way su x y → z ∈ su y → Way su x z
theorem Way.trans {su : Int → List Int} {x y z : Int} (h : Way su x y) (k : Way su y z) : Way su x z := by
  induction k with
  | refl => exact h
  | step _ hz ih => exact ih.step hz
theorem Way.head {su : Int → List Int} {x y z : Int} (h : y ∈ su x) (k : Way su y z) : Way su x z := ((Way.refl x).step h).trans k

section
variable {su : Int → List Int} {ok : Int → Prop} (hok : ∀ b, ok b → ∀ x ∈ su b, ok x) (hin : ∀ b, ok b → inR b = true)
include hok hin

/-- What a going through adds. -/
theorem Thr.adds {l : List Int} {s s' : St} (h : Thr su l s s') : (∀ x ∈ l, ok x) →
    ∃ N : List Int, s'.L = N ++ s.L ∧ (∀ x, hasN s'.G x = true ↔ hasN s.G x = true ∨ x ∈ N) ∧ N.Nodup ∧ (∀ x ∈ N, hasN s.G x = false) ∧ (∀ x ∈ N, ok x) ∧ (∀ x ∈ N, ∃ b ∈ l, Way su b x) ∧
      (∀ b ∈ l, hasN s'.G b = true) ∧ (∀ x ∈ N, ∀ v ∈ su x, hasN s'.G v = true) := by
  induction h with
  | nil s => intro _; exact ⟨[], rfl, fun x => by simp, List.nodup_nil, by simp, by simp, by simp, by simp, by simp⟩
  | @skip b bs s s' hb _ ih =>
    intro hl
    obtain ⟨N, h1, h2, h3, h4, h5, h6, h7, h8⟩ := ih fun x hx => hl x (List.mem_cons_of_mem _ hx)
    refine ⟨N, h1, h2, h3, h4, h5, fun x hx => ?_, fun x hx => ?_, h8⟩
    · obtain ⟨c, hc, hw⟩ := h6 x hx
      exact ⟨c, List.mem_cons_of_mem _ hc, hw⟩
    · rcases List.mem_cons.1 hx with rfl | hx
      · exact (h2 _).2 (.inl hb)
      · exact h7 x hx
  | @go b bs s s1 s' hb _ _ ih1 ih2 =>
    intro hl
    have okb := hl b (List.mem_cons_self ..)
    have inb := hin b okb
    obtain ⟨N1, a1, a2, a3, a4, a5, a6, a7, a8⟩ := ih1 (hok b okb)
    obtain ⟨N2, c1, c2, c3, c4, c5, c6, c7, c8⟩ := ih2 fun x hx => hl x (List.mem_cons_of_mem _ hx)
    simp only at a1 a2 a4 c1 c2 c4
    have hG : ∀ x, hasN s1.G x = true ↔ (hasN s.G x = true ∨ x = b) ∨ x ∈ N1 := fun x => by rw [a2, hasN_with inb]
    refine ⟨N2 ++ b :: N1, ?_, fun x => ?_, ?_, fun x hx => ?_, fun x hx => ?_, fun x hx => ?_, fun x hx => ?_, fun x hx v hv => ?_⟩
    · rw [c1, a1]; simp
    · rw [c2, hG]
      simp only [List.mem_append, List.mem_cons]
      constructor
      · rintro (((h | h) | h) | h)
        · exact .inl h
        · exact .inr (.inr (.inl h))
        · exact .inr (.inr (.inr h))
        · exact .inr (.inl h)
      · rintro (h | h | h | h)
        · exact .inl (.inl (.inl h))
        · exact .inr h
        · exact .inl (.inl (.inr h))
        · exact .inl (.inr h)
    · rw [List.nodup_append, List.nodup_cons]
      refine ⟨c3, ⟨fun hb1 => ?_, a3⟩, fun x hx y hy e => ?_⟩
      · have := a4 b hb1
        rw [(hasN_with inb b).2 (.inr rfl)] at this
        cases this
      · subst e
        have := c4 x hx
        have h2 : hasN s1.G x = true := by
          rw [hG]
          rcases List.mem_cons.1 hy with rfl | hy
          · exact .inl (.inr rfl)
          · exact .inr hy
        rw [h2] at this
        cases this
    · rcases List.mem_append.1 hx with hx | hx
      · have := c4 x hx
        cases hs : hasN s.G x
        · rfl
        · rw [(hG x).2 (.inl (.inl hs))] at this; cases this
      · rcases List.mem_cons.1 hx with rfl | hx
        · exact hb
        · have := a4 x hx
          cases hs : hasN s.G x
          · rfl
          · rw [(hasN_with inb x).2 (.inl hs)] at this; cases this
    · rcases List.mem_append.1 hx with hx | hx
      · exact c5 x hx
      · rcases List.mem_cons.1 hx with rfl | hx
        · exact okb
        · exact a5 x hx
    · rcases List.mem_append.1 hx with hx | hx
      · obtain ⟨c, hc, hw⟩ := c6 x hx
        exact ⟨c, List.mem_cons_of_mem _ hc, hw⟩
      · rcases List.mem_cons.1 hx with rfl | hx
        · exact ⟨x, List.mem_cons_self .., .refl x⟩
        · obtain ⟨c, hc, hw⟩ := a6 x hx
          exact ⟨b, List.mem_cons_self .., hw.head hc⟩
    · rcases List.mem_cons.1 hx with rfl | hx
      · exact (c2 _).2 (.inl ((hG _).2 (.inl (.inr rfl))))
      · exact c7 x hx
    · rcases List.mem_append.1 hx with hx | hx
      · exact c8 x hx v hv
      · rcases List.mem_cons.1 hx with rfl | hx
        · exact (c2 _).2 (.inl (a7 v hv))
        · exact (c2 _).2 (.inl (a8 x hx v hv))

/-- Each edge goes to one that stands behind, or that goes back. -/
def Good (su : Int → List Int) : List Int → Prop
  | [] => True
  | u :: Y => (∀ v ∈ su u, v ∈ Y ∨ Way su v u) ∧ Good su Y

theorem Thr.good {l : List Int} {s s' : St} (h : Thr su l s s') : (∀ x ∈ l, ok x) → (∀ y, hasN s.G y = true → y ∉ s.L → ∀ b ∈ l, Way su y b) → Good su s.L → Good su s'.L := by
  induction h with
  | nil s => intro _ _ h; exact h
  | @skip b bs s s' hb _ ih =>
    intro hl hp hg
    exact ih (fun x hx => hl x (List.mem_cons_of_mem _ hx)) (fun y h1 h2 c hc => hp y h1 h2 c (List.mem_cons_of_mem _ hc)) hg
  | @go b bs s s1 s' hb hi hr ih1 ih2 =>
    intro hl hp hg
    have okb := hl b (List.mem_cons_self ..)
    have inb := hin b okb
    obtain ⟨N1, a1, a2, a3, a4, a5, a6, a7, a8⟩ := Thr.adds hok hin hi (hok b okb)
    simp only at a1 a2 a4
    have hg1 : Good su s1.L := ih1 (hok b okb) (fun y h1 h2 c hc => by
      rcases (hasN_with inb y).1 h1 with h | rfl
      · exact (hp y h h2 b (List.mem_cons_self ..)).step hc
      · exact (Way.refl y).step hc) hg
    refine ih2 (fun x hx => hl x (List.mem_cons_of_mem _ hx)) (fun y h1 h2 c hc => ?_) ⟨fun v hv => ?_, hg1⟩
    · simp only [List.mem_cons, not_or] at h1 h2
      rcases (a2 y).1 h1 with h | h
      · rcases (hasN_with inb y).1 h with h | h
        · refine hp y h (fun hy => h2.2 ?_) c (List.mem_cons_of_mem _ hc)
          rw [a1]; exact List.mem_append_right _ hy
        · exact absurd h h2.1
      · exact absurd (by rw [a1]; exact List.mem_append_left _ h) h2.2
    · rcases (a2 v).1 (a7 v hv) with h | h
      · rcases (hasN_with inb v).1 h with h | h
        · by_cases hvL : v ∈ s.L
          · exact .inl (by rw [a1]; exact List.mem_append_right _ hvL)
          · exact .inr (hp v h hvL b (List.mem_cons_self ..))
        · subst h; exact .inr (.refl v)
      · exact .inl (by rw [a1]; exact List.mem_append_left _ h)

/-- The whole: from one block, with nothing gone through. -/
theorem Thr.whole {b0 : Int} {s' : St} (h0 : ok b0) (h : Thr su [b0] ⟨0, []⟩ s') :
    (∃ Y, s'.L = b0 :: Y) ∧ s'.L.Nodup ∧ (∀ x, x ∈ s'.L ↔ Way su b0 x) ∧ Good su s'.L ∧ (∀ x ∈ s'.L, ok x) := by
  have hz : ∀ x, hasN 0 x = false := fun x => by unfold hasN; rw [Nat.zero_testBit, Bool.and_false]
  obtain ⟨N, a1, a2, a3, a4, a5, a6, a7, a8⟩ := Thr.adds hok hin h (fun x hx => by simp at hx; subst hx; exact h0)
  simp only [List.append_nil] at a1
  rw [a1]
  have a2' : ∀ x, hasN s'.G x = true ↔ x ∈ N := fun x => by rw [a2]; simp [hz]
  refine ⟨?_, a3, fun x => ⟨fun hx => ?_, fun hx => ?_⟩, ?_, a5⟩
  · cases h with
    | skip hb _ => rw [hz] at hb; cases hb
    | go _ _ hr =>
      cases hr with
      | nil => exact ⟨_, a1.symm⟩
  · obtain ⟨c, hc, hw⟩ := a6 x hx
    simp at hc; subst hc; exact hw
  · induction hx with
    | refl => exact (a2' _).1 (a7 _ (by simp))
    | step _ hz ih => exact (a2' _).1 (a8 _ ih _ hz)
  · rw [← a1]
    exact Thr.good hok hin h (fun x hx => by simp at hx; subst hx; exact h0) (fun y h1 => by rw [hz] at h1; cases h1) trivial
end

/-- How many of the first n are in a set. -/
def cntG (G n : Nat) : Nat := (List.range n).countP fun j => G.testBit j
theorem cntG_le (G n : Nat) : cntG G n ≤ n := by
  have := List.countP_le_length (p := fun j => G.testBit j) (l := List.range n)
  simpa [cntG] using this
theorem cntG_zero (n : Nat) : cntG 0 n = 0 := by
  unfold cntG
  rw [List.countP_eq_zero]
  intro a _; simp
theorem cntG_succ (G n : Nat) : cntG G (n + 1) = cntG G n + if G.testBit n then 1 else 0 := by
  unfold cntG
  rw [List.range_succ, List.countP_append]
  simp [List.countP_cons]
theorem cntG_with {G : Nat} {b : Int} (hb : inR b = true) (h : hasN G b = false) : ∀ n : Nat, n ≤ 1024 → cntG (withI G b) n = cntG G n + if b < n then 1 else 0
  | 0, _ => by
    have := (inR_iff b).1 hb
    rw [if_neg (by omega)]; rfl
  | n + 1, hn => by
    have hb' := (inR_iff b).1 hb
    unfold hasN at h
    rw [hb, Bool.true_and] at h
    rw [cntG_succ, cntG_succ, cntG_with hb (by unfold hasN; rw [hb, Bool.true_and]; exact h) n (by omega), testBit_withI G b (by omega)]
    by_cases e : b = (n : Int)
    · subst e
      have h' : G.testBit n = false := h
      simp [h']
      omega
    · have : decide (b = (n : Int)) = false := decide_eq_false e
      rw [this, Bool.or_false]
      have hc : ((n + 1 : Nat) : Int) = (n : Int) + 1 := by omega
      by_cases q : b < (n : Int)
      · have q2 : b < ((n + 1 : Nat) : Int) := by omega
        rw [if_pos q, if_pos q2]; omega
      · have q2 : ¬ b < ((n + 1 : Nat) : Int) := by omega
        rw [if_neg q, if_neg q2]; omega

/-- What is reached from some, through none of others. -/
inductive Rt (su : Int → List Int) (n : Nat) (frm nt : List Int) : Int → Prop
  | base {x : Int} : x ∈ frm → x ∉ nt → 0 ≤ x → x < n → Rt su n frm nt x
  | step {x y : Int} : Rt su n frm nt x → y ∈ su x → y ∉ nt → Rt su n frm nt y

theorem Rt.way {su : Int → List Int} {n : Nat} {b0 x : Int} (h0 : 0 ≤ b0) (h1 : b0 < n) : Rt su n [b0] [] x ↔ Way su b0 x := by
  constructor
  · intro h
    induction h with
    | base h _ _ _ => simp at h; subst h; exact .refl _
    | step _ hy _ ih => exact ih.step hy
  · intro h
    induction h with
    | refl => exact .base (by simp) (by simp) h0 h1
    | step _ hy ih => exact ih.step hy (by simp)

theorem Rt.append {su : Int → List Int} {n : Nat} {a b : List Int} {x : Int} : Rt su n (a ++ b) [] x ↔ Rt su n a [] x ∨ Rt su n b [] x := by
  constructor
  · intro h
    induction h with
    | base h h1 h2 h3 =>
      rcases List.mem_append.1 h with h | h
      · exact .inl (.base h h1 h2 h3)
      · exact .inr (.base h h1 h2 h3)
    | step _ hy h1 ih =>
      rcases ih with h | h
      · exact .inl (h.step hy h1)
      · exact .inr (h.step hy h1)
  · rintro (h | h)
    · induction h with
      | base h h1 h2 h3 => exact .base (List.mem_append_left _ h) h1 h2 h3
      | step _ hy h1 ih => exact ih.step hy h1
    · induction h with
      | base h h1 h2 h3 => exact .base (List.mem_append_right _ h) h1 h2 h3
      | step _ hy h1 ih => exact ih.step hy h1

end Go.Proofs.YtjichaeegheacaaGreatDoor

/- Graph -/
/-
  A function's blocks as a graph: its edges, where each goes, what is reached. Plain lists: no walk here.
-/
namespace Go.Proofs.YtjichaeegheacaaGreatDoor
open Go Go.RowKit

/-- Where a block goes. -/
def suB (bs : List Blk) (x : Int) : List Int := if 0 ≤ x ∧ x < bs.length then toL (gB bs x.toNat).t else []
def okB (bs : List Blk) (x : Int) : Prop := 0 ≤ x ∧ x < bs.length
theorem suB_of {bs : List Blk} {x : Int} (h : okB bs x) : suB bs x = toL (gB bs x.toNat).t := if_pos h
def OkBs (bs : List Blk) : Prop := ∀ i, i < bs.length → (gB bs i).t.ok

theorem toL_i64 {t : Tm} (h : t.ok) : ∀ x ∈ toL t, I64 x := by
  obtain ⟨h1, h2, h3, h4⟩ := h
  intro x hx
  unfold toL at hx
  split at hx
  · split at hx
    · simp at hx; subst hx; exact h3
    · split at hx
      · simp at hx; rcases hx with rfl | rfl <;> assumption
      · cases hx
  · cases hx

theorem mem_edgesTo (bs : List Blk) (e : Ed) : ∀ n, e ∈ edgesTo bs n ↔ ∃ k m : Nat, k < n ∧ m < (toL (gB bs k).t).length ∧ e = ⟨k, m, gI (toL (gB bs k).t) m⟩
  | 0 => by simp [edgesTo]
  | n + 1 => by
    rw [edgesTo, List.mem_append, mem_edgesTo bs e n]
    constructor
    · rintro (⟨k, m, h1, h2, h3⟩ | h)
      · exact ⟨k, m, by omega, h2, h3⟩
      · simp only [armE, List.mem_map, List.mem_range] at h
        obtain ⟨m, h1, h2⟩ := h
        exact ⟨n, m, by omega, h1, h2.symm⟩
    · rintro ⟨k, m, h1, h2, h3⟩
      by_cases hk : k = n
      · subst hk
        exact .inr (by simp only [armE, List.mem_map, List.mem_range]; exact ⟨m, h2, h3.symm⟩)
      · exact .inl ⟨k, m, by omega, h2, h3⟩
theorem mem_edges (bs : List Blk) (e : Ed) : e ∈ edgesOf bs ↔ ∃ k m : Nat, k < bs.length ∧ m < (toL (gB bs k).t).length ∧ e = ⟨k, m, gI (toL (gB bs k).t) m⟩ := mem_edgesTo bs e bs.length

theorem inN_iff {t : Int} {n : Nat} (ht : I64 t) (hn : n ≤ 200) : inN t n = true ↔ 0 ≤ t ∧ t < n := by
  obtain ⟨h1, h2⟩ := ht
  unfold inN
  have : IntKind.u64.wrap t = t % 18446744073709551616 := by simp [IntKind.wrap, IntKind.bits, IntKind.signed]
  rw [this]; simp; omega

/-- Of a function that is closed. -/
structure Cl (bs : List Blk) : Prop where
  pos : 0 < bs.length
  le : bs.length ≤ 200
  go : ∀ b, okB bs b → ∀ x ∈ suB bs b, okB bs x
theorem Cl.inR {bs : List Blk} (h : Cl bs) (b : Int) (hb : okB bs b) : inR b = true := by
  have := h.le
  obtain ⟨h1, h2⟩ := hb
  rw [inR_iff]; omega

theorem closed_cl {bs : List Blk} (ho : OkBs bs) (h : closedB bs = true) : Cl bs := by
  unfold closedB allN at h
  rw [Bool.and_eq_true, Bool.and_eq_true, decide_eq_true_iff, decide_eq_true_iff, List.all_eq_true] at h
  obtain ⟨h1, h2, h3⟩ := h
  refine ⟨h2, h3, fun b hb x hx => ?_⟩
  rw [suB_of hb] at hx
  obtain ⟨m, hm, rfl⟩ := List.mem_iff_getElem.1 hx
  obtain ⟨hb1, hb2⟩ := hb
  have hk : b.toNat < bs.length := by omega
  have he := h1 ⟨b.toNat, m, gI (toL (gB bs b.toNat).t) m⟩ ((mem_edges bs _).2 ⟨b.toNat, m, hk, hm, rfl⟩)
  simp only at he
  rw [inN_iff (toL_i64 (ho _ hk) _ (gI_mem hm)) h3, gI_eq hm] at he
  exact he

theorem edge_su {bs : List Blk} {e : Ed} (h : e ∈ edgesOf bs) : okB bs e.f ∧ e.t ∈ suB bs e.f := by
  obtain ⟨k, m, h1, h2, rfl⟩ := (mem_edges bs e).1 h
  have hk : okB bs (k : Int) := ⟨by omega, by omega⟩
  refine ⟨hk, ?_⟩
  rw [suB_of hk]
  exact gI_mem h2
theorem su_edge {bs : List Blk} {x y : Int} (h : y ∈ suB bs x) : ∃ e ∈ edgesOf bs, e.f = x ∧ e.t = y := by
  unfold suB at h
  split at h
  · rename_i hx
    obtain ⟨m, hm, rfl⟩ := List.mem_iff_getElem.1 h
    obtain ⟨h1, h2⟩ := hx
    refine ⟨⟨x.toNat, m, gI (toL (gB bs x.toNat).t) m⟩, (mem_edges bs _).2 ⟨x.toNat, m, by omega, hm, rfl⟩, ?_, ?_⟩
    · simp only; omega
    · simp only; rw [gI_eq hm]
  · cases h
theorem edge_i64 {bs : List Blk} (ho : OkBs bs) (hl : bs.length ≤ 35184372088832) {e : Ed} (h : e ∈ edgesOf bs) : I64 e.f ∧ I64 e.a ∧ I64 e.t := by
  obtain ⟨k, m, h1, h2, rfl⟩ := (mem_edges bs e).1 h
  have := toL_len (gB bs k).t
  exact ⟨⟨by simp only; omega, by simp only; omega⟩, ⟨by simp only; omega, by simp only; omega⟩, toL_i64 (ho k h1) _ (gI_mem h2)⟩

/-- Where a number stands; -1: nowhere. -/
def placeI (l : List Int) (b : Int) : Int := if l.contains b then (l.idxOf b : Int) else -1
theorem placeI_none {l : List Int} {b : Int} (h : l.contains b = false) : placeI l b = -1 := by unfold placeI; rw [h]; rfl
theorem placeI_cons (x : Int) (l : List Int) (b : Int) : placeI (x :: l) b = if x = b then 0 else if placeI l b < 0 then -1 else placeI l b + 1 := by
  unfold placeI
  by_cases h : x = b
  · subst h; simp
  · rw [if_neg h, List.contains_cons, show (b == x) = false by simpa using fun e => h e.symm, Bool.false_or]
    cases hc : l.contains b
    · simp
    · have hx : (x == b) = false := by simpa using h
      simp only [if_true, List.idxOf_cons, hx, cond_false]
      rw [if_neg (by omega)]
      omega
theorem placeI_at {l : List Int} {b : Int} : ∀ {k : Nat}, k < l.length → gI l k = b → (l.take k).contains b = false → placeI l b = k := by
  induction l with
  | nil => intro k hk; cases hk
  | cons x l ih =>
    intro k hk hb hn
    rw [placeI_cons]
    cases k with
    | zero =>
      have : x = b := by simpa [gI] using hb
      rw [if_pos this]; rfl
    | succ k =>
      rw [List.take_succ_cons, List.contains_cons, Bool.or_eq_false_iff] at hn
      have hne : ¬ x = b := by
        intro e; subst e
        have := hn.1
        simp at this
      rw [if_neg hne]
      have := ih (k := k) (by simpa using hk) (by simpa [gI] using hb) hn.2
      rw [this, if_neg (by omega)]
      omega
theorem placeI_nonneg {l : List Int} {b : Int} : 0 ≤ placeI l b ↔ b ∈ l := by
  unfold placeI
  cases hc : l.contains b
  · simp only [Bool.false_eq_true, if_false]
    constructor
    · intro h; omega
    · intro h
      rw [← List.contains_iff_mem, hc] at h; cases h
  · simp only [if_true]
    exact ⟨fun _ => List.contains_iff_mem.1 hc, fun _ => by omega⟩
theorem placeI_lo (l : List Int) (b : Int) : -1 ≤ placeI l b ∧ placeI l b < l.length + 1 := by
  unfold placeI
  split
  · rename_i h
    have := List.idxOf_lt_length_of_mem (List.contains_iff_mem.1 h)
    omega
  · omega

theorem good_place {su : Int → List Int} {l : List Int} : Good su l → l.Nodup → ∀ {u v : Int}, u ∈ l → v ∈ su u → placeI l v ≤ placeI l u → 0 ≤ placeI l v → Way su v u := by
  induction l with
  | nil => intro _ _ u v hu; cases hu
  | cons x l ih =>
    intro hg hn u v hu hv hp h0
    obtain ⟨hx, hgl⟩ := hg
    rw [List.nodup_cons] at hn
    rw [placeI_cons] at hp h0
    rw [placeI_cons] at hp
    by_cases hxu : x = u
    · subst hxu
      rw [if_pos rfl] at hp
      rcases hx v hv with h | h
      · have hne : ¬ x = v := by rintro rfl; exact hn.1 h
        rw [if_neg hne] at hp h0
        have := placeI_nonneg.2 h
        rw [if_neg (by omega)] at hp
        omega
      · exact h
    · have hul : u ∈ l := by
        rcases List.mem_cons.1 hu with e | h
        · exact absurd e.symm hxu
        · exact h
      have hpu := placeI_nonneg.2 hul
      by_cases hxv : x = v
      · subst hxv
        by_cases hxl : x ∈ l
        · exact absurd hxl hn.1
        · -- the head goes back to u, or stands ahead of it: it reaches u, for else u would stand behind an edge that does not go back
          exact good_back hgl hul hv hxl
      · rw [if_neg hxu, if_neg hxv] at hp
        rw [if_neg hxv] at h0
        rw [if_neg (show ¬ placeI l u < 0 by omega)] at hp
        by_cases hvn : placeI l v < 0
        · rw [if_pos hvn] at h0; omega
        · rw [if_neg hvn] at hp
          exact ih hgl hn.2 hul hv (by omega) (by omega)
where
  good_back {su : Int → List Int} {l : List Int} : Good su l → ∀ {u v : Int}, u ∈ l → v ∈ su u → v ∉ l → Way su v u := by
    induction l with
    | nil => intro _ u v hu; cases hu
    | cons x l ih =>
      intro hg u v hu hv hn
      obtain ⟨hx, hgl⟩ := hg
      rcases List.mem_cons.1 hu with rfl | hu
      · rcases hx v hv with h | h
        · exact absurd (List.mem_cons_of_mem _ h) hn
        · exact h
      · exact ih hgl hu hv (fun h => hn (List.mem_cons_of_mem _ h))

theorem upTo_nodup (N m : Nat) : (upTo N m).Nodup := by
  unfold upTo
  refine List.Pairwise.map _ ?_ (List.Pairwise.filter _ List.nodup_range)
  intro a b hab e
  exact hab (Int.ofNat.inj e)

/-- What is reached, as a set. -/
structure RSet (bs : List Blk) (frm nt : List Int) (R : Nat) : Prop where
  sm : Sm R
  has : ∀ j : Nat, R.testBit j = true ↔ Rt (suB bs) bs.length frm nt (j : Int)
theorem RSet.mem {bs : List Blk} {frm nt : List Int} {R : Nat} (h : RSet bs frm nt R) (hc : Cl bs) (x : Int) : x ∈ upTo R 1024 ↔ Rt (suB bs) bs.length frm nt x := by
  rw [mem_upTo]
  constructor
  · rintro ⟨j, _, h2, rfl⟩
    exact (h.has j).1 h2
  · intro hx
    have h0 : okB bs x := by
      induction hx with
      | base _ _ h0 h1 => exact ⟨h0, h1⟩
      | step _ hy _ ih => exact hc.go _ ih _ hy
    have hl := hc.le
    obtain ⟨h1, h2⟩ := h0
    refine ⟨x.toNat, by omega, ?_, by omega⟩
    rw [h.has]
    rw [show ((x.toNat : Nat) : Int) = x by omega]
    exact hx

/-- The order that is told. -/
def OrderIs (bs : List Blk) (l : List Int) : Prop := ∃ s, Thr (suB bs) [0] ⟨0, []⟩ s ∧ s.L = l

theorem order_law {bs : List Blk} (hc : Cl bs) {l : List Int} (h : OrderIs bs l) :
    (∃ Y, l = 0 :: Y) ∧ (∀ R, RSet bs [0] [] R → (upTo R 1024).length = l.length ∧ ∀ x ∈ upTo R 1024, x ∈ l) ∧
      ∀ e ∈ edgesOf bs, e.f ∈ l → e.t ∈ l ∧ (placeI l e.t ≤ placeI l e.f → ∀ R, RSet bs [e.t] [] R → e.f ∈ upTo R 1024) := by
  obtain ⟨s, hs, rfl⟩ := h
  have h0 : okB bs 0 := ⟨by omega, by have := hc.pos; omega⟩
  obtain ⟨a1, a2, a3, a4, a5⟩ := Thr.whole hc.go hc.inR h0 hs
  refine ⟨a1, fun R hR => ?_, fun e he hf => ?_⟩
  · have hm : ∀ x, x ∈ upTo R 1024 ↔ x ∈ s.L := fun x => by
      rw [hR.mem hc, a3, Rt.way h0.1 h0.2]
    have hp := (List.perm_ext_iff_of_nodup (upTo_nodup R 1024) a2).2 hm
    exact ⟨hp.length_eq, fun x hx => (hm x).1 hx⟩
  · obtain ⟨h1, h2⟩ := edge_su he
    have ht : e.t ∈ s.L := (a3 _).2 (((a3 _).1 hf).step h2)
    refine ⟨ht, fun hp R hR => ?_⟩
    have hw := good_place a4 a2 hf h2 hp (placeI_nonneg.2 ht)
    obtain ⟨t0, t1⟩ := a5 _ ht
    rw [hR.mem hc, Rt.way t0 t1]
    exact hw

/- Counting edges. -/
def gE (es : List Ed) (i : Nat) : Ed := es[i]?.getD ⟨0, 0, 0⟩
theorem gE_eq {es : List Ed} {i : Nat} (h : i < es.length) : gE es i = es[i] := by simp [gE, h]
theorem gE_mem {es : List Ed} {i : Nat} (h : i < es.length) : gE es i ∈ es := by rw [gE_eq h]; exact List.getElem_mem h
/-- How many edges have their value at b, of the b's ahead of n. -/
def sumE (g : Ed → Int) (es : List Ed) : Nat → Nat
  | 0 => 0
  | n + 1 => sumE g es n + (es.filter fun e => decide (g e = (n : Int))).length
theorem sumE_eq (g : Ed → Int) (es : List Ed) : ∀ n : Nat, sumE g es n = (es.filter fun e => decide (0 ≤ g e ∧ g e < n)).length
  | 0 => by
    have : (es.filter fun e => decide (0 ≤ g e ∧ g e < ((0 : Nat) : Int))) = [] := by
      rw [List.filter_eq_nil_iff]; intro e _; simp
    rw [this]; rfl
  | n + 1 => by
    rw [sumE, sumE_eq g es n, ← List.countP_eq_length_filter, ← List.countP_eq_length_filter, ← List.countP_eq_length_filter]
    induction es with
    | nil => rfl
    | cons e es ih =>
      simp only [List.countP_cons, decide_eq_true_iff]
      have hc : ((n + 1 : Nat) : Int) = (n : Int) + 1 := by omega
      by_cases h1 : 0 ≤ g e ∧ g e < (n : Int)
      · have h2 : ¬ g e = (n : Int) := by omega
        have h3 : 0 ≤ g e ∧ g e < ((n + 1 : Nat) : Int) := by omega
        rw [if_pos h1, if_neg h2, if_pos h3]; omega
      · by_cases h2 : g e = (n : Int)
        · have h3 : 0 ≤ g e ∧ g e < ((n + 1 : Nat) : Int) := by omega
          rw [if_neg h1, if_pos h2, if_pos h3]; omega
        · have h3 : ¬ (0 ≤ g e ∧ g e < ((n + 1 : Nat) : Int)) := by omega
          rw [if_neg h1, if_neg h2, if_neg h3]; omega
theorem sumE_all (g : Ed → Int) {es : List Ed} {n : Nat} (h : ∀ e ∈ es, 0 ≤ g e ∧ g e < n) : sumE g es n = es.length := by
  rw [sumE_eq]
  congr 1
  rw [List.filter_eq_self]
  intro e he
  exact decide_eq_true (h e he)

/-- Those that are so among the first, and the next of them. -/
theorem filter_at {p : Ed → Bool} {es : List Ed} : ∀ {i : Nat}, i < es.length → p (gE es i) = true → ((es.take i).filter p).length < (es.filter p).length ∧ gE (es.filter p) ((es.take i).filter p).length = gE es i := by
  induction es with
  | nil => intro i hi; cases hi
  | cons e es ih =>
    intro i hi hp
    cases i with
    | zero =>
      have : p e = true := by simpa [gE] using hp
      simp [gE, this]
    | succ i =>
      have := ih (i := i) (by simpa using hi) (by simpa [gE] using hp)
      have hg : gE (e :: es) (i + 1) = gE es i := by simp [gE]
      rw [List.take_succ_cons, hg]
      cases he : p e
      · simp only [List.filter_cons, he, Bool.false_eq_true, if_false]; exact this
      · simp only [List.filter_cons, he, if_true, List.length_cons]
        exact ⟨by omega, by simpa [gE] using this.2⟩
theorem filter_take_succ {p : Ed → Bool} {es : List Ed} {i : Nat} (hi : i < es.length) : (es.take (i + 1)).filter p = (es.take i).filter p ++ if p (gE es i) then [gE es i] else [] := by
  rw [List.take_succ_eq_append_getElem hi, List.filter_append, gE_eq hi]
  cases h : p es[i] <;> simp [h]

/-- The edges stand in order of blocks and arms. -/
def edLt (a b : Ed) : Prop := a.f < b.f ∨ a.f = b.f ∧ a.a < b.a
theorem edges_lt (bs : List Blk) : ∀ n, (edgesTo bs n).Pairwise edLt
  | 0 => List.Pairwise.nil
  | n + 1 => by
    rw [edgesTo, List.pairwise_append]
    refine ⟨edges_lt bs n, ?_, fun a ha b hb => ?_⟩
    · unfold armE
      refine List.Pairwise.map _ ?_ List.pairwise_lt_range
      intro a b h
      exact .inr ⟨rfl, by simp only; omega⟩
    · obtain ⟨k, m, h1, h2, rfl⟩ := (mem_edgesTo bs a n).1 ha
      simp only [armE, List.mem_map, List.mem_range] at hb
      obtain ⟨m', _, rfl⟩ := hb
      exact .inl (by simp only; omega)
theorem edges_next (bs : List Blk) {i : Nat} (h : i + 1 < (edgesOf bs).length) : edLt (gE (edgesOf bs) i) (gE (edgesOf bs) (i + 1)) := by
  rw [gE_eq (by omega), gE_eq h]
  exact List.pairwise_iff_getElem.1 (edges_lt bs bs.length) i (i + 1) (Nat.lt_trans (Nat.lt_succ_self i) h) h (Nat.lt_succ_self i)

end Go.Proofs.YtjichaeegheacaaGreatDoor
