
/-
  Package flow: Reached.
-/
import Derived.Test.YtjichaeegheacaaTree
import Derived.Test.YtjichaeegheacaaGraph
namespace Go.Proofs.Ytjichaeegheacaa
open Go Go.RowKit

/-- One step from each of some blocks. -/
def stepN (bs : List Blk) (N : Nat) (l : List Int) : Nat := l.foldl (fun N b => withL N (suB bs b)) N
theorem stepN_sm (bs : List Blk) (l : List Int) : ∀ {N : Nat}, Sm N → Sm (stepN bs N l) := by
  induction l with
  | nil => intro N h; exact h
  | cons x l ih => intro N h; exact ih (withL_sm _ h)
theorem stepN_snoc (bs : List Blk) (N : Nat) (l : List Int) (x : Int) : stepN bs N (l ++ [x]) = withL (stepN bs N l) (suB bs x) := by
  unfold stepN; rw [List.foldl_append]; rfl
theorem testBit_stepN (bs : List Blk) {j : Nat} (hj : j < 1024) (l : List Int) : ∀ N : Nat, (stepN bs N l).testBit j = true ↔ N.testBit j = true ∨ ∃ b ∈ l, (j : Int) ∈ suB bs b := by
  induction l with
  | nil => intro N; simp [stepN]
  | cons x l ih =>
    intro N
    show (stepN bs (withL N (suB bs x)) l).testBit j = true ↔ _
    rw [ih, testBit_withL _ hj, Bool.or_eq_true, List.contains_iff_mem]
    constructor
    · rintro ((h | h) | ⟨b, h1, h2⟩)
      · exact .inl h
      · exact .inr ⟨x, List.mem_cons_self .., h⟩
      · exact .inr ⟨b, List.mem_cons_of_mem _ h1, h2⟩
    · rintro (h | ⟨b, h1, h2⟩)
      · exact .inl (.inl h)
      · rcases List.mem_cons.1 h1 with rfl | h1
        · exact .inl (.inr h2)
        · exact .inr ⟨b, h1, h2⟩

/-- The first k numbers. -/
def FirstN (N k : Nat) : Prop := Sm N ∧ ∀ j, j < 1024 → N.testBit j = decide (j < k)
theorem FirstN.zero : FirstN 0 0 := ⟨sm_zero, fun j _ => by simp⟩
theorem FirstN.succ {N k : Nat} (h : FirstN N k) : FirstN (withL N [(k : Int)]) (k + 1) :=
  ⟨withL_sm _ h.1, fun j hj => by
    rw [testBit_withL _ hj, h.2 j hj, Bool.eq_iff_iff]
    simp
    omega⟩

/-- The blocks that may be gone through. -/
structure OpenN (bs : List Blk) (nt : List Int) (O : Nat) : Prop where
  sm : Sm O
  has : ∀ j, j < 1024 → (O.testBit j = true ↔ j < bs.length ∧ (j : Int) ∉ nt)
theorem OpenN.of_first {bs : List Blk} {nt : List Int} {N : Nat} (h : FirstN N bs.length) : OpenN bs nt (outL N nt) :=
  ⟨outL_sm _ h.1, fun j hj => by rw [testBit_outL _ hj, h.2 j hj]; simp⟩

/-- What is known of what has been reached. -/
structure Part (bs : List Blk) (frm nt : List Int) (O N : Nat) : Prop where
  sm : Sm N
  sub : ∀ j, N.testBit j = true → j < 1024 ∧ O.testBit j = true ∧ Rt (suB bs) bs.length frm nt (j : Int)
  base : ∀ j, j < bs.length → (j : Int) ∈ frm → (j : Int) ∉ nt → N.testBit j = true

theorem sm_lt {N j : Nat} (h : Sm N) (hj : N.testBit j = true) : j < 1024 := by
  by_cases h2 : j < 1024
  · exact h2
  · rw [h j (by omega)] at hj; cases hj

theorem Part.start {bs : List Blk} (hc : Cl bs) {frm nt : List Int} {O : Nat} (hO : OpenN bs nt O) : Part bs frm nt O (O &&& withL 0 frm) := by
  refine ⟨and_sm _ hO.sm, fun j hj => ?_, fun j h1 h2 h3 => ?_⟩
  · have hl := sm_lt (and_sm _ hO.sm) hj
    rw [Nat.testBit_and, Bool.and_eq_true, testBit_withL _ hl, Nat.zero_testBit, Bool.false_or, List.contains_iff_mem] at hj
    obtain ⟨a, b⟩ := (hO.has j hl).1 hj.1
    exact ⟨hl, hj.1, .base hj.2 b (by omega) (by omega)⟩
  · have hle := hc.le
    rw [Nat.testBit_and, (hO.has j (by omega)).2 ⟨h1, h3⟩, testBit_withL _ (by omega), List.contains_iff_mem.2 h2]
    simp
theorem Part.next {bs : List Blk} (hc : Cl bs) {frm nt : List Int} {O N : Nat} (hO : OpenN bs nt O) (h : Part bs frm nt O N) : Part bs frm nt O (stepN bs N (upTo N 1024) &&& O) := by
  have hsm := and_sm O (stepN_sm bs (upTo N 1024) h.sm)
  refine ⟨hsm, fun j hj => ?_, fun j h1 h2 h3 => ?_⟩
  · have hl := sm_lt hsm hj
    rw [Nat.testBit_and, Bool.and_eq_true, testBit_stepN bs hl] at hj
    refine ⟨hl, hj.2, ?_⟩
    rcases hj.1 with h1 | ⟨b, hb, hjb⟩
    · exact (h.sub j h1).2.2
    · obtain ⟨i, _, hi2, rfl⟩ := (mem_upTo N 1024 b).1 hb
      exact (h.sub i hi2).2.2.step hjb ((hO.has j hl).1 hj.2).2
  · have hle := hc.le
    rw [Nat.testBit_and, (testBit_stepN bs (by omega) _ _).2 (.inl (h.base j h1 h2 h3)), (hO.has j (by omega)).2 ⟨h1, h3⟩]; rfl
theorem Part.fix {bs : List Blk} (hc : Cl bs) {frm nt : List Int} {O N : Nat} (hO : OpenN bs nt O) (h : Part bs frm nt O N) (hf : stepN bs N (upTo N 1024) &&& O = N) : RSet bs frm nt N := by
  refine ⟨h.sm, fun j => ⟨fun hj => (h.sub j hj).2.2, fun hj => ?_⟩⟩
  have hle := hc.le
  have key : ∀ x : Int, Rt (suB bs) bs.length frm nt x → okB bs x ∧ N.testBit x.toNat = true := by
    intro x hx
    induction hx with
    | @base x h1 h2 h3 h4 =>
      have hx : ((x.toNat : Nat) : Int) = x := by omega
      exact ⟨⟨h3, h4⟩, h.base x.toNat (by omega) (by rw [hx]; exact h1) (by rw [hx]; exact h2)⟩
    | @step x y _ hy hn ih =>
      obtain ⟨ok, hN⟩ := ih
      have oky := hc.go x ok y hy
      obtain ⟨y0, y1⟩ := oky
      obtain ⟨x0, x1⟩ := ok
      refine ⟨⟨y0, y1⟩, ?_⟩
      have hyy : ((y.toNat : Nat) : Int) = y := by omega
      rw [← hf, Nat.testBit_and, (hO.has y.toNat (by omega)).2 ⟨by omega, by rw [hyy]; exact hn⟩, Bool.and_true, testBit_stepN bs (by omega)]
      refine .inr ⟨x, (mem_upTo N 1024 x).2 ⟨x.toNat, by omega, hN, by omega⟩, ?_⟩
      rw [hyy]; exact hy
  have := (key _ hj).2
  simpa using this
theorem Part.grows {bs : List Blk} {frm nt : List Int} {O N : Nat} (h : Part bs frm nt O N) (hne : ¬ stepN bs N (upTo N 1024) &&& O = N) : cntG N 1024 < cntG (stepN bs N (upTo N 1024) &&& O) 1024 := by
  have hsub : ∀ j, N.testBit j = true → (stepN bs N (upTo N 1024) &&& O).testBit j = true := fun j hj => by
    obtain ⟨hl, ho, _⟩ := h.sub j hj
    rw [Nat.testBit_and, ho, (testBit_stepN bs hl _ _).2 (.inl hj)]; rfl
  have hex : ∃ j, j < 1024 ∧ N.testBit j = false ∧ (stepN bs N (upTo N 1024) &&& O).testBit j = true := by
    refine Classical.byContradiction fun hno => hne ?_
    refine set_ext (and_sm O (stepN_sm bs _ h.sm)) h.sm fun n hn => ?_
    cases hN : N.testBit n
    · cases hq : (stepN bs N (upTo N 1024) &&& O).testBit n
      · rfl
      · exact absurd ⟨n, hn, hN, hq⟩ hno
    · exact hsub n hN
  generalize stepN bs N (upTo N 1024) &&& O = M at *
  obtain ⟨j, hj, h1, h2⟩ := hex
  have gen : ∀ n, cntG N n + (if j < n then 1 else 0) ≤ cntG M n := by
    intro n
    induction n with
    | zero => simp [cntG]
    | succ n ih =>
      rw [cntG_succ, cntG_succ]
      by_cases hjn : j = n
      · subst hjn
        rw [h1, h2]
        rw [if_neg (Nat.lt_irrefl _)] at ih
        rw [if_pos (Nat.lt_succ_self _)]
        simp; omega
      · have : (if j < n + 1 then 1 else 0) = (if j < n then 1 else 0 : Nat) := by
          by_cases q : j < n
          · rw [if_pos q, if_pos (by omega)]
          · rw [if_neg q, if_neg (by omega)]
        rw [this]
        cases hN : N.testBit n
        · simp; omega
        · rw [hsub n hN]; simp; omega
  have := gen 1024
  rw [if_pos hj] at this
  omega

/-- How much may still come, read off the world. -/
noncomputable def leftOf (p : Value) (w : World) : Nat :=
  open Classical in
  match p with
  | .pointer (some a) => if h : ∃ N, Sm N ∧ w.heap[a.block]? = some (.cells (setA N) 75 (0, 0)) then 1024 - cntG (Classical.choose h) 1024 else 0
  | _ => 0
theorem leftOf_eq {w : World} {g N : Nat} (hN : Sm N) (h : w.heap[g]? = some (.cells (setA N) 75 (0, 0))) : leftOf (.pointer (some ⟨g, 0, none⟩)) w = 1024 - cntG N 1024 := by
  have hex : ∃ M, Sm M ∧ w.heap[g]? = some (.cells (setA M) 75 (0, 0)) := ⟨N, hN, h⟩
  have hs := Classical.choose_spec hex
  have : Classical.choose hex = N := by
    have h2 := h.symm.trans hs.2
    injection h2 with h2
    injection h2 with h2
    exact (setA_inj hN hs.1 h2).symm
  simp only [leftOf]
  rw [dif_pos hex, this]

/-- The answer of Reached. -/
def ReachedIs (w : World) (bs : List Blk) (frm nt : List Int) (e : Ending) (w' : World) : Prop := ∃ R, RSet bs frm nt R ∧ FreshInts w (upTo R 1024) e w'

end Go.Proofs.Ytjichaeegheacaa
