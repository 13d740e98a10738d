/-
  Law 10, FlowCounts: what is counted. Plain lists, and what Reached answers in every case.
-/
import Derived.Test.YtjichaeegheacaaDoorAwake10
import Derived.Test.YtjichaeegheacaaDoorReached
import Derived.Test.YtjichaeegheacaaDoorCount
namespace Go.Proofs.YtjichaeegheacaaDoor
open Go Go.RowKit

/-- The edges that Edges answers. -/
def allE (bs : List Blk) : List Ed := someE bs fun _ => true
theorem allE_eq (bs : List Blk) : allE bs = if closedB bs then edgesOf bs else [] := by
  unfold allE someE; cases closedB bs <;> simp
theorem someE_eq (bs : List Blk) (p : Ed → Bool) : someE bs p = (allE bs).filter p := by
  unfold allE someE; cases closedB bs <;> simp
theorem allE_sub (bs : List Blk) : ∀ e ∈ allE bs, e ∈ edgesOf bs := by
  intro e he
  rw [allE_eq] at he
  split at he
  · exact he
  · cases he
theorem allE_len (bs : List Blk) : (allE bs).length ≤ 2 * bs.length := by
  rw [allE_eq]
  split
  · exact edgesTo_len bs bs.length
  · simp
theorem allE_len2 (bs : List Blk) : (allE bs).length ≤ 400 := by
  rw [allE_eq]
  split
  · rename_i h
    have := edgesTo_len bs bs.length
    unfold closedB at h
    rw [Bool.and_eq_true, Bool.and_eq_true, decide_eq_true_iff, decide_eq_true_iff] at h
    have h2 := h.2.2
    show (edgesTo bs bs.length).length ≤ 400
    omega
  · simp
theorem allE_next (bs : List Blk) {i : Nat} (h : i + 1 < (allE bs).length) : edLt (gE (allE bs) i) (gE (allE bs) (i + 1)) := by
  rw [allE_eq] at h ⊢
  cases hc : closedB bs
  · rw [hc] at h; simp at h
  · rw [hc] at h
    simp only [if_true] at h ⊢
    exact edges_next bs h

/-- How many from the first k blocks, into the first k blocks. -/
def outS (bs : List Blk) (k : Nat) : Nat := sumE (·.f) (allE bs) k
def inS (bs : List Blk) (k : Nat) : Nat := sumE (·.t) (allE bs) k
theorem outS_succ (bs : List Blk) (k : Nat) : outS bs (k + 1) = outS bs k + (someE bs fun x => decide (x.f = (k : Int))).length := by
  rw [someE_eq]; rfl
theorem inS_succ (bs : List Blk) (k : Nat) : inS bs (k + 1) = inS bs k + (someE bs fun x => decide (x.t = (k : Int))).length := by
  rw [someE_eq]; rfl
theorem sumE_le (g : Ed → Int) (es : List Ed) (k : Nat) : sumE g es k ≤ es.length := by
  rw [sumE_eq]; exact List.length_filter_le _ _
theorem outS_all (bs : List Blk) : outS bs bs.length = (allE bs).length :=
  sumE_all _ fun e he => (edge_su (allE_sub bs e he)).1
theorem inS_all (bs : List Blk) (ho : OkBs bs) : inS bs bs.length = (allE bs).length := by
  refine sumE_all _ fun e he => ?_
  have hm := he
  rw [allE_eq] at hm
  split at hm
  · rename_i hc
    obtain ⟨h1, h2⟩ := edge_su hm
    exact (closed_cl ho hc).go _ h1 _ h2
  · cases hm

/-- Is an edge critical, by the counts that the law asks? -/
theorem crit_law {bs : List Blk} {e : Ed} (he : e ∈ allE bs) :
    critB (edgesOf bs) e = (decide (1 < (someE bs fun x => decide (x.f = e.f)).length) && decide (1 < (someE bs fun x => decide (x.t = e.t)).length)) := by
  have hm := he
  rw [allE_eq] at hm
  split at hm
  · rename_i hc
    rw [someE_eq, someE_eq, show allE bs = edgesOf bs by rw [allE_eq, if_pos hc], Bool.and_comm]
    rfl
  · cases hm

/-- What Reached answers. -/
def RIs (bs : List Blk) (frm nt r : List Int) : Prop := (closedB bs = false ∧ r = []) ∨ (closedB bs = true ∧ ∃ R, RSet bs frm nt R ∧ r = upTo R 1024)
theorem Reached_all (P : Value) (A B C : Option Addr) (c cb cc : Nat) (bs : List Blk) (frm nt : List Int) (w : World) (hT : Tab w) (hr : RF w A bs) (hf : RI w B frm) (hn : RI w C nt) :
    Calls Tryd.prog 26 #[.agg #[P, .slice A bs.length c], .slice B frm.length cb, .slice C nt.length cc] w (fun e w' => ∃ r, RIs bs frm nt r ∧ FreshInts w r e w') := by
  cases hcl : closedB bs
  · refine (Reached_no P A B C c cb cc bs frm nt w hr hcl).mono ?_
    rintro e w' ⟨rfl, hb⟩
    exact ⟨[], .inl ⟨hcl, rfl⟩, fresh_nil _ _ hb⟩
  · refine (Reached_yes P A B C c cb cc bs frm nt w hT hr hf hn hcl).mono ?_
    rintro e w' ⟨R, hR, hf⟩
    exact ⟨_, .inr ⟨hcl, R, hR, rfl⟩, hf⟩
theorem RIs.i64 {bs : List Blk} {frm nt r : List Int} (h : RIs bs frm nt r) : ∀ x ∈ r, I64 x := by
  rcases h with ⟨_, e⟩ | ⟨_, R, _, e⟩
  · rw [e]; intro x hx; cases hx
  · rw [e]; exact upTo_i64 (by omega)
theorem RIs.len {bs : List Blk} {frm nt r : List Int} (h : RIs bs frm nt r) : r.length ≤ 1024 := by
  rcases h with ⟨_, e⟩ | ⟨_, R, _, e⟩
  · rw [e]; simp
  · rw [e]; exact upTo_len _ _
theorem RIs.both {bs : List Blk} (ho : OkBs bs) {a b ra rb rr : List Int} (ha : RIs bs a [] ra) (hb : RIs bs b [] rb) (hr : RIs bs (a ++ b) [] rr) : (∀ x ∈ rr, x ∈ ra ∨ x ∈ rb) ∧ ∀ x ∈ ra, x ∈ rr := by
  rcases hr with ⟨hc, e⟩ | ⟨hc, R, hR, e⟩
  · rcases ha with ⟨_, e1⟩ | ⟨hc2, _⟩
    · rw [e, e1]; simp
    · rw [hc] at hc2; cases hc2
  · rcases ha with ⟨hc2, _⟩ | ⟨_, R1, hR1, e1⟩
    · rw [hc] at hc2; cases hc2
    · rcases hb with ⟨hc2, _⟩ | ⟨_, R2, hR2, e2⟩
      · rw [hc] at hc2; cases hc2
      · have hcl := closed_cl ho hc
        rw [e, e1, e2]
        constructor
        · intro x hx
          rw [hR.mem hcl, Rt.append] at hx
          rw [hR1.mem hcl, hR2.mem hcl]
          exact hx
        · intro x hx
          rw [hR1.mem hcl] at hx
          rw [hR.mem hcl, Rt.append]
          exact .inl hx

end Go.Proofs.YtjichaeegheacaaDoor
