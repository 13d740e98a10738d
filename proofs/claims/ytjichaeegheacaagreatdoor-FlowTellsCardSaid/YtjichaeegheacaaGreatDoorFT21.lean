/-
  TellsA TellsB
-/
import Derived.Test.YtjichaeegheacaaGreatDoorFT13
import Derived.Test.YtjichaeegheacaaGreatDoorFT19
import Derived.Test.YtjichaeegheacaaGreatDoorFT20
import Derived.Test.YtjichaeegheacaaGreatDoorFT15

/- TellsA -/
/-
  What law 10 asks of the program and of the document, each in one contract; what it depends on.
-/
namespace Go.Proofs.YtjichaeegheacaaGreatDoor
open Go Go.RowKit

/-- What the edges are depends on the ends alone. -/
def SameT (bs cs : List Blk) : Prop := bs.length = cs.length ∧ ∀ k, k < bs.length → (gB bs k).t = (gB cs k).t
theorem sameT_edgesTo {bs cs : List Blk} (h : SameT bs cs) : ∀ n, n ≤ bs.length → edgesTo bs n = edgesTo cs n
  | 0, _ => rfl
  | n + 1, hn => by rw [edgesTo, edgesTo, sameT_edgesTo h n (by omega), h.2 n (by omega)]
theorem sameT_edges {bs cs : List Blk} (h : SameT bs cs) : edgesOf bs = edgesOf cs := by
  unfold edgesOf
  rw [sameT_edgesTo h _ (Nat.le_refl _), h.1]
theorem sameT_su {bs cs : List Blk} (h : SameT bs cs) : suB bs = suB cs := by
  funext x
  unfold suB
  rw [h.1]
  by_cases q : 0 ≤ x ∧ x < (cs.length : Int)
  · rw [if_pos q, if_pos q, h.2 _ (by have := h.1; omega)]
  · rw [if_neg q, if_neg q]
theorem sameT_closed {bs cs : List Blk} (h : SameT bs cs) : closedB bs = closedB cs := by
  unfold closedB
  rw [sameT_edges h, h.1]
theorem sameT_some {bs cs : List Blk} (h : SameT bs cs) (p : Ed → Bool) : someE bs p = someE cs p := by
  unfold someE
  rw [sameT_closed h, sameT_edges h]
theorem sameT_of_dat {xs ys : List BlkV} (h : xs.map BlkV.dat = ys.map BlkV.dat) : SameT (blks xs) (blks ys) := by
  have hl := map_b_len h
  refine ⟨by rw [blks_len, blks_len]; exact hl, fun k hk => ?_⟩
  rw [blks_len] at hk
  rw [gB_blks hk, gB_blks (by omega)]
  have := map_b_at h (i := k) (by omega)
  exact congrArg Prod.snd this

/-- The order that is told; none, where the function is not closed. -/
def OrdP (bs : List Blk) (l : List Int) : Prop := (closedB bs = true → OrderIs bs l) ∧ (closedB bs = false → l = [])
theorem OrdP.unique {bs cs : List Blk} (hs : SameT bs cs) {l m : List Int} (h : OrdP bs l) (g : OrdP cs m) : l = m := by
  have hcl := sameT_closed hs
  cases hc : closedB bs
  · rw [h.2 hc, g.2 (by rw [← hcl]; exact hc)]
  · obtain ⟨s, h1, rfl⟩ := h.1 hc
    obtain ⟨s', h2, rfl⟩ := g.1 (by rw [← hcl]; exact hc)
    rw [sameT_su hs] at h1
    rw [h1.det h2]
/-- What is reached. -/
def RchP (bs : List Blk) (frm nt l : List Int) : Prop := (closedB bs = true → ∃ R, RSet bs frm nt R ∧ l = upTo R 1024) ∧ (closedB bs = false → l = [])
theorem RchP.unique {bs cs : List Blk} (hs : SameT bs cs) {frm nt l m : List Int} (h : RchP bs frm nt l) (g : RchP cs frm nt m) : l = m := by
  have hcl := sameT_closed hs
  cases hc : closedB bs
  · rw [h.2 hc, g.2 (by rw [← hcl]; exact hc)]
  · obtain ⟨R, h1, e1⟩ := h.1 hc
    obtain ⟨R', h2, e2⟩ := g.1 (by rw [← hcl]; exact hc)
    have h3 : RSet cs frm nt R := ⟨h1.sm, fun j => by rw [h1.has j, sameT_su hs, hs.1]⟩
    rw [e1, e2, h3.unique h2]

/-- A slice of ints in a block of its own. -/
structure OwnS (B : Nat) (w : World) (o : SV) (l : List Int) : Prop where
  n : o.n = l.length
  ow : Ow w o
  ri : RI w o.A l
  low : ∀ b, o.bk = some b → B ≤ b
theorem OwnS.below {B : Nat} {w w' : World} {o : SV} {l : List Int} (h : OwnS B w o l) (hb : Below w.heap.size w w') : OwnS B w' o l := ⟨h.n, h.ow.same fun b _ hlt => hb.block b hlt, h.ri.below hb, h.low⟩
theorem ownS_nil (B : Nat) (w : World) : OwnS B w ⟨none, 0, 0⟩ [] := ⟨rfl, .inl ⟨rfl, rfl, rfl⟩, RI.nil _ _, fun b hb => by cases hb⟩
theorem ownS_row {B : Nat} {w : World} {v : Value} {l : List Int} (h : w.ownsRow B 3 1 v l.length (l.map (Value.int .i64))) (hi : ∀ x ∈ l, I64 x) (hl : l.length ≤ 140737488355328) : ∃ o : SV, v = .slice o.A o.n o.c ∧ OwnS B w o l := by
  obtain ⟨A, c, e, _, hr⟩ := own_RI h hi hl
  subst e
  refine ⟨⟨A, l.length, c⟩, rfl, rfl, ?_, hr, fun b hb => own_base h b ?_⟩
  · cases hl0 : l with
    | nil =>
      subst hl0
      rcases h.2 with ⟨q, _⟩ | ⟨g, cap, cur, q, _, hg, hnc, _, hcs, _⟩
      · cases q
        exact .inl ⟨rfl, rfl, rfl⟩
      · cases q
        exact .inr ⟨g, 0, cur, rfl, hg, by simp only; omega, hnc⟩
    | cons x y =>
      rw [← hl0]
      have hp : 0 < l.length := by rw [hl0]; simp
      obtain ⟨g, cap, cur, q, _, hg, hnc, _, hcs, _⟩ := own_some h hp
      cases q
      exact .inr ⟨g, 0, cur, rfl, hg, by simp only; omega, hnc⟩
  · cases A with
    | none => simp [SV.bk] at hb
    | some a => simp only [SV.bk, Option.map_some, Option.some.injEq] at hb; rw [← hb]; rfl
theorem ownS_rng {B : Nat} {w : World} {rb off : Nat} {l : List Int} (h : TailRow w rb off l) (hb : B ≤ rb) : OwnS B w ⟨some ⟨rb, off, none⟩, l.length, l.length⟩ l := by
  refine ⟨rfl, ?_, h.RI, fun b e => by simp [SV.bk] at e; omega⟩
  obtain ⟨cs, h1, h2, _⟩ := h.row
  exact .inr ⟨rb, off, cs, rfl, h1, by simp only; omega, Nat.le_refl _⟩

theorem Order_all (P : Value) (A : Option Addr) (c : Nat) (bs : List Blk) (w : World) (hr : RF w A bs) :
    Calls Tryz.prog 22 #[.agg #[P, .slice A bs.length c]] w fun e w' => ∃ (o : SV) (l : List Int), OrdP bs l ∧ l.length ≤ 1024 ∧ e = .returned (.slice o.A o.n o.c) ∧ OwnS w.heap.size w' o l ∧ Below w.heap.size w w' := by
  cases hcl : closedB bs
  · exact (Order_no P A c bs w hr hcl).mono fun e w' ⟨h1, h2⟩ => ⟨⟨none, 0, 0⟩, [], ⟨fun q => absurd q (by rw [hcl]; decide), fun _ => rfl⟩, by simp, h1, ownS_nil _ _, h2⟩
  · exact (Order_yes P A c bs w hr hcl).mono fun e w' ⟨l, rb, off, h1, h2, h3, h4, h5⟩ => ⟨⟨some ⟨rb, off, none⟩, l.length, l.length⟩, l, ⟨fun _ => h1, fun q => absurd q (by rw [hcl]; decide)⟩, h3.len, h2, ownS_rng h3 h4, h5⟩
theorem Order10_all (P : Value) (A : Option Addr) (c : Nat) (bs : List Blk) (w : World) (hr : RF w A bs) (hl : bs.length ≤ 1000) :
    Calls Tryz.prog 25 #[.agg #[P, .slice A bs.length c]] w fun e w' => ∃ (Al : Option Addr) (cl : Nat) (l : List Int), OrdP bs l ∧ e = .returned (.slice Al l.length cl) ∧ RI w' Al l ∧ Below w.heap.size w w' := by
  cases hcl : closedB bs
  · exact (Order10_no P A c bs w hr hl hcl).mono fun e w' ⟨h1, h2⟩ => ⟨none, 0, [], ⟨fun q => absurd q (by rw [hcl]; decide), fun _ => rfl⟩, h1, RI.nil _ _, h2⟩
  · exact (Order10_yes P A c bs w hr hcl).mono fun e w' ⟨l, Al, cl, h1, h2, h3, h4⟩ => ⟨Al, cl, l, ⟨fun _ => h1, fun q => absurd q (by rw [hcl]; decide)⟩, h2, h3, h4⟩
theorem Reached_all (P : Value) (A B C : Option Addr) (c cb cc : Nat) (bs : List Blk) (frm nt : List Int) (w : World) (hT : Tab w) (hr : RF w A bs) (hf : RI w B frm) (hn : RI w C nt) :
    Calls Tryz.prog 23 #[.agg #[P, .slice A bs.length c], .slice B frm.length cb, .slice C nt.length cc] w fun e w' => ∃ (o : SV) (l : List Int), RchP bs frm nt l ∧ l.length ≤ 1024 ∧ e = .returned (.slice o.A o.n o.c) ∧ OwnS w.heap.size w' o l ∧ Below w.heap.size w w' := by
  cases hcl : closedB bs
  · exact (Reached_no P A B C c cb cc bs frm nt w hr hcl).mono fun e w' ⟨h1, h2⟩ => ⟨⟨none, 0, 0⟩, [], ⟨fun q => absurd q (by rw [hcl]; decide), fun _ => rfl⟩, by simp, h1, ownS_nil _ _, h2⟩
  · refine (Reached_yes P A B C c cb cc bs frm nt w hT hr hf hn hcl).mono fun e w' ⟨R, hR, v, h2, h3, h4, h5⟩ => ?_
    have hlen := upTo_len R 1024
    obtain ⟨o, ho, hO⟩ := ownS_row h3 (upTo_i64 (Nat.le_refl 1024)) (by omega)
    exact ⟨o, _, ⟨fun _ => ⟨R, hR, rfl⟩, fun q => absurd q (by rw [hcl]; decide)⟩, hlen, by rw [h2, ho], hO, h5⟩
theorem Reached10_all (P : Value) (A B C : Option Addr) (c cb cc : Nat) (bs : List Blk) (frm nt : List Int) (w : World) (hr : RF w A bs) (hl : bs.length ≤ 1000) (hf : RI w B frm) (hn : RI w C nt) :
    Calls Tryz.prog 26 #[.agg #[P, .slice A bs.length c], .slice B frm.length cb, .slice C nt.length cc] w fun e w' => ∃ (Al : Option Addr) (cl : Nat) (l : List Int), RchP bs frm nt l ∧ e = .returned (.slice Al l.length cl) ∧ RI w' Al l ∧ Below w.heap.size w w' := by
  cases hcl : closedB bs
  · exact (Reached10_no P A B C c cb cc bs frm nt w hr hl hcl).mono fun e w' ⟨h1, h2⟩ => ⟨none, 0, [], ⟨fun q => absurd q (by rw [hcl]; decide), fun _ => rfl⟩, h1, RI.nil _ _, h2⟩
  · exact (Reached10_yes P A B C c cb cc bs frm nt w hr hf hn hcl).mono fun e w' ⟨R, Al, cl, h1, h2, h3, h4⟩ => ⟨Al, cl, _, ⟨fun _ => ⟨R, h1, rfl⟩, fun q => absurd q (by rw [hcl]; decide)⟩, h2, h3, h4⟩

end Go.Proofs.YtjichaeegheacaaGreatDoor

/- TellsB -/
/-
  Law 10, FlowTells: what the calls of its drawn region hand back.
-/
namespace Go.Proofs.YtjichaeegheacaaGreatDoor
open Go Go.RowKit

/-- A row of edges, handed back. -/
def EdsIs (w : World) (es : List Ed) (e : Ending) (w' : World) : Prop := ∃ A c, e = .returned (.slice A es.length c) ∧ RE w' A es ∧ Below w.heap.size w w'
theorem EdsIs.of_own {w : World} {es : List Ed} (hl : es.length ≤ 2000) {e : Ending} {w' : World} (h : OwnEds w es e w') : EdsIs w es e w' := by
  obtain ⟨v, he, ho, hb⟩ := h
  obtain ⟨A, c, hv, _, hr⟩ := own_RE ho (by omega)
  exact ⟨A, c, by rw [he, hv], hr, hb⟩
theorem EdsIs.of_fresh {w : World} {es : List Ed} (hl : es.length ≤ 2000) {e : Ending} {w' : World} (h : FreshEds w es e w') : EdsIs w es e w' := by
  obtain ⟨v, he, ho, _, hb⟩ := h
  exact EdsIs.of_own hl ⟨v, he, ho, hb⟩
theorem someE_len {bs : List Blk} (hl : bs.length ≤ 1000) (p : Ed → Bool) : (someE bs p).length ≤ 2000 := by
  unfold someE
  have := edgesTo_len bs bs.length
  have h2 := List.length_filter_le p (edgesOf bs)
  unfold edgesOf at *
  split
  · omega
  · simp
theorem crit_dat {bs cs : List Blk} (h : SameT bs cs) : someE bs (critB (edgesOf bs)) = someE cs (critB (edgesOf cs)) := by rw [sameT_some h, sameT_edges h]

theorem OwnS.of_lent {B : Nat} {w : World} {A : Option Addr} {c : Nat} {xs : List Int} (h : LentI w B A c xs) : OwnS B w ⟨A, xs.length, c⟩ xs := by
  obtain ⟨g, cap, cur, q, hB, hg, hnc, _, hcs, _⟩ := own_some h.1 (by omega)
  cases q
  refine ⟨rfl, .inr ⟨g, 0, cur, rfl, hg, by simp only; omega, by simp only; omega⟩, h.ri, fun b hb => ?_⟩
  simp only [SV.bk, Option.map_some, Option.some.injEq] at hb
  omega
/-- Four slices, each made behind the one ahead. -/
theorem la_four {B n1 n2 n3 : Nat} {x o p r : SV} (hx : ∀ b, x.bk = some b → B ≤ b ∧ b < n1) (ho : ∀ b, o.bk = some b → n1 ≤ b ∧ b < n2) (hp : ∀ b, p.bk = some b → n2 ≤ b ∧ b < n3) (hr : ∀ b, r.bk = some b → n3 ≤ b) (h1 : B ≤ n1) (h2 : n1 ≤ n2) (h3 : n2 ≤ n3) : LA B [o, p, r, x] := by
  have c4 : ∀ i, i < [o, p, r, x].length → i = 0 ∨ i = 1 ∨ i = 2 ∨ i = 3 := fun i hi => by simp at hi; omega
  have e0 : gS [o, p, r, x] 0 = o := rfl
  have e1 : gS [o, p, r, x] 1 = p := rfl
  have e2 : gS [o, p, r, x] 2 = r := rfl
  have e3 : gS [o, p, r, x] 3 = x := rfl
  refine ⟨fun i j hi hj hne b hb hb' => ?_, fun i hi b hb => ?_⟩
  · rcases c4 i hi with rfl | rfl | rfl | rfl <;> rcases c4 j hj with rfl | rfl | rfl | rfl <;> simp only [e0, e1, e2, e3] at hb hb' <;> first
      | exact hne rfl
      | (have a1 := ho b hb; have a2 := hp b hb'; omega)
      | (have a1 := ho b hb; have a2 := hr b hb'; omega)
      | (have a1 := ho b hb; have a2 := hx b hb'; omega)
      | (have a1 := hp b hb; have a2 := ho b hb'; omega)
      | (have a1 := hp b hb; have a2 := hr b hb'; omega)
      | (have a1 := hp b hb; have a2 := hx b hb'; omega)
      | (have a1 := hr b hb; have a2 := ho b hb'; omega)
      | (have a1 := hr b hb; have a2 := hp b hb'; omega)
      | (have a1 := hr b hb; have a2 := hx b hb'; omega)
      | (have a1 := hx b hb; have a2 := ho b hb'; omega)
      | (have a1 := hx b hb; have a2 := hp b hb'; omega)
      | (have a1 := hx b hb; have a2 := hr b hb'; omega)
  · rcases c4 i hi with rfl | rfl | rfl | rfl <;> simp only [e0, e1, e2, e3] at hb <;> first
      | (have a1 := ho b hb; omega)
      | (have a1 := hp b hb; omega)
      | (have a1 := hr b hb; omega)
      | (have a1 := hx b hb; omega)

section
variable (F : FnV) (w : World) (hF : RFn w F) (hl : F.bs.length ≤ 500)
include hF hl
omit hl in
theorem tClosed {cl : Bool} (he : closedB (blks F.bs) = cl) : Calls Tryz.prog 11 #[F.val] w (Fresh w (.bool cl)) := by
  subst he
  have := Closed_any F.pv F.A F.c (blks F.bs) w hF.blk.rf
  rwa [blks_len] at this
theorem tClosed10 {cl : Bool} (he : closedB (blks F.bs) = cl) : Calls Tryz.prog 12 #[F.val] w (Fresh w (.bool cl)) := by
  subst he
  have := Closed10_any F.pv F.A F.c (blks F.bs) w hF.blk.rf (by rw [blks_len]; omega)
  rwa [blks_len] at this
theorem tEdges {es : List Ed} (he : (someE (blks F.bs) fun _ => true) = es) : Calls Tryz.prog 14 #[F.val] w (EdsIs w es) := by
  subst he
  have := Edges_any F.pv F.A F.c (blks F.bs) w hF.blk.rf
  rw [blks_len] at this
  exact this.mono fun e w' h => EdsIs.of_fresh (someE_len (by rw [blks_len]; omega) _) h
theorem tEdges10 {es : List Ed} (he : (someE (blks F.bs) fun _ => true) = es) : Calls Tryz.prog 15 #[F.val] w (EdsIs w es) := by
  subst he
  have := Edges10_any F.pv F.A F.c (blks F.bs) w hF.blk.rf (by rw [blks_len]; omega)
  rw [blks_len] at this
  exact this.mono fun e w' h => EdsIs.of_own (someE_len (by rw [blks_len]; omega) _) h
theorem tInto (n : Int) {es : List Ed} (he : (someE (blks F.bs) fun x => decide (x.t = n)) = es) : Calls Tryz.prog 16 #[F.val, .int .i64 n] w (EdsIs w es) := by
  subst he
  have := Into_any F.pv F.A F.c (blks F.bs) n w hF.blk.rf
  rw [blks_len] at this
  exact this.mono fun e w' h => EdsIs.of_fresh (someE_len (by rw [blks_len]; omega) _) h
theorem tInto10 (n : Int) {es : List Ed} (he : (someE (blks F.bs) fun x => decide (x.t = n)) = es) : Calls Tryz.prog 17 #[F.val, .int .i64 n] w (EdsIs w es) := by
  subst he
  have := Into10_any F.pv F.A F.c (blks F.bs) n w hF.blk.rf (by rw [blks_len]; omega)
  rw [blks_len] at this
  exact this.mono fun e w' h => EdsIs.of_own (someE_len (by rw [blks_len]; omega) _) h
theorem tFrom (n : Int) {es : List Ed} (he : (someE (blks F.bs) fun x => decide (x.f = n)) = es) : Calls Tryz.prog 18 #[F.val, .int .i64 n] w (EdsIs w es) := by
  subst he
  have := From_any F.pv F.A F.c (blks F.bs) n w hF.blk.rf
  rw [blks_len] at this
  exact this.mono fun e w' h => EdsIs.of_fresh (someE_len (by rw [blks_len]; omega) _) h
theorem tFrom10 (n : Int) {es : List Ed} (he : (someE (blks F.bs) fun x => decide (x.f = n)) = es) : Calls Tryz.prog 19 #[F.val, .int .i64 n] w (EdsIs w es) := by
  subst he
  have := From10_any F.pv F.A F.c (blks F.bs) n w hF.blk.rf (by rw [blks_len]; omega)
  rw [blks_len] at this
  exact this.mono fun e w' h => EdsIs.of_own (someE_len (by rw [blks_len]; omega) _) h
theorem tCrit {es : List Ed} (he : someE (blks F.bs) (critB (edgesOf (blks F.bs))) = es) : Calls Tryz.prog 20 #[F.val] w (EdsIs w es) := by
  subst he
  have := Critical_any F.pv F.A F.c (blks F.bs) w hF.blk.rf
  rw [blks_len] at this
  exact this.mono fun e w' h => EdsIs.of_fresh (someE_len (by rw [blks_len]; omega) _) h
theorem tCrit10 {es : List Ed} (he : someE (blks F.bs) (critB (edgesOf (blks F.bs))) = es) : Calls Tryz.prog 21 #[F.val] w (EdsIs w es) := by
  subst he
  have := Critical10_any F.pv F.A F.c (blks F.bs) w hF.blk.rf (by rw [blks_len]; omega)
  rw [blks_len] at this
  exact this.mono fun e w' h => EdsIs.of_own (someE_len (by rw [blks_len]; omega) _) h
omit hl in
theorem tOrder : Calls Tryz.prog 22 #[F.val] w fun e w' => ∃ (o : SV) (l : List Int), OrdP (blks F.bs) l ∧ l.length ≤ 1024 ∧ e = .returned (.slice o.A o.n o.c) ∧ OwnS w.heap.size w' o l ∧ Below w.heap.size w w' := by
  have := Order_all F.pv F.A F.c (blks F.bs) w hF.blk.rf
  rwa [blks_len] at this
theorem tOrder10 : Calls Tryz.prog 25 #[F.val] w fun e w' => ∃ (Al : Option Addr) (cl : Nat) (l : List Int), OrdP (blks F.bs) l ∧ e = .returned (.slice Al l.length cl) ∧ RI w' Al l ∧ Below w.heap.size w w' := by
  have := Order10_all F.pv F.A F.c (blks F.bs) w hF.blk.rf (by rw [blks_len]; omega)
  rwa [blks_len] at this
omit hl in
theorem tReached (B C : Option Addr) (cb cc : Nat) (frm nt : List Int) (hT : Tab w) (hf : RI w B frm) (hn : RI w C nt) : Calls Tryz.prog 23 #[F.val, .slice B frm.length cb, .slice C nt.length cc] w fun e w' => ∃ (o : SV) (l : List Int), RchP (blks F.bs) frm nt l ∧ l.length ≤ 1024 ∧ e = .returned (.slice o.A o.n o.c) ∧ OwnS w.heap.size w' o l ∧ Below w.heap.size w w' := by
  have := Reached_all F.pv F.A B C F.c cb cc (blks F.bs) frm nt w hT hF.blk.rf hf hn
  rwa [blks_len] at this
theorem tReached10 (B C : Option Addr) (cb cc : Nat) (frm nt : List Int) (hf : RI w B frm) (hn : RI w C nt) : Calls Tryz.prog 26 #[F.val, .slice B frm.length cb, .slice C nt.length cc] w fun e w' => ∃ (Al : Option Addr) (cl : Nat) (l : List Int), RchP (blks F.bs) frm nt l ∧ e = .returned (.slice Al l.length cl) ∧ RI w' Al l ∧ Below w.heap.size w w' := by
  have := Reached10_all F.pv F.A B C F.c cb cc (blks F.bs) frm nt w hF.blk.rf (by rw [blks_len]; omega) hf hn
  rwa [blks_len] at this
end

end Go.Proofs.YtjichaeegheacaaGreatDoor
