
/-
  Package dom: made: of a function that is not closed; the first regions.
-/
import Derived.Test.YtjichaeegheacaaDomP
import Derived.Test.YtjichaeegheacaaRepeat
import Derived.Test.YtjichaeegheacaaInto
import Derived.Test.YtjichaeegheacaaOrder
import Derived.Test.YtjichaeegheacaaAwake10
import Derived.Test.YtjichaeegheacaaOwnQ
namespace Go.Proofs.Ytjichaeegheacaa
open Go Go.RowKit

set_option maxRecDepth 100000 in
set_option maxHeartbeats 2000000 in
theorem made_no (P : Value) (A : Option Addr) (c : Nat) (bs : List Blk) (w : World) (hr : RF w A bs) (hcl : closedB bs = false) :
    Calls Try.prog 20 #[.agg #[P, .slice A bs.length c]] w (Fresh w (.agg #[.slice none 0 0, .slice none 0 0])) := by
  have hb0 := (Below.refl w.heap.size w).alloc (Nat.le_refl _) (.cells #[P, .slice A bs.length c] 25)
  have hb1 := hb0.alloc (by simp) (.cells #[.slice none 0 0, .slice none 0 0] 57)
  have hs := (blk_old (w.alloc (.cells #[P, .slice A bs.length c] 25)) (.cells #[.slice none 0 0, .slice none 0 0] 57) (by simp)).trans (blk_new w (.cells #[P, .slice A bs.length c] 25))
  have ht := blk_new (w.alloc (.cells #[P, .slice A bs.length c] 25)) (.cells #[.slice none 0 0, .slice none 0 0] 57)
  rw [World.size_alloc] at ht
  have q := fun W hW => Closed_any P A c bs W (hr.below (w' := W) hW)
  rw [hcl] at q
  go_enter Try.func20, Try.ntmps20
  go_wp2_with (refine wpList_load_row rfl _ _ rfl _ rfl _ _ _ _ hs Try.underlying25 rfl (by kernel_rfl) ?_)
  refine (q _ hb1).mono ?_
  rintro e W1 ⟨rfl, hbx⟩
  have hb2 := hb1.trans (hbx.mono hb1.size)
  have ht1 := blk_below hbx ht (blk_lt ht)
  go_wp2_with (first | (refine wpList_load_row rfl _ _ rfl _ rfl _ _ _ _ ht1 Try.underlying57 rfl (by kernel_rfl) ?_) | (refine wpList_store_row rfl _ _ _ rfl (w.heap.size + 1) #[.slice none 0 0, .slice none 0 0] rfl rfl _ _ ht1 (by kernel_rfl) rfl (by simp [Value.oneCell']) ?_))
  refine bodyPost_ret (results_cell_row rfl _ _ (w.heap.size + 1) _ _ _ _ rfl (blk_setRow ht1) Try.underlying57 rfl (by kernel_rfl)) rfl ?_
  exact ⟨rfl, below_setRow hb2 (by omega) _⟩

/-- Where the variables of made lie, behind its first regions. -/
structure MadeAt (w W : World) (P : Value) (A : Option Addr) (c : Nat) (bs : List Blk) (rb off : Nat) (l : List Int) (bu bp : Nat) (U Pl : List Int) : Prop where
  ub : W.heap[bu]? = some (.cells (U.map (Value.int .i64)).toArray 3 (0, 0))
  pb : W.heap[bp]? = some (.cells (Pl.map (Value.int .i64)).toArray 3 (0, 0))
  tree : W.heap[w.heap.size + 1]? = some (.cells #[.slice (some ⟨bu, 0, none⟩) bs.length bs.length, .slice (some ⟨bp, 0, none⟩) bs.length bs.length] 57 (0, 0))
  func : W.heap[w.heap.size]? = some (.cells #[P, .slice A bs.length c] 25 (0, 0))
  row : TailRow W rb off l
  bel : Below w.heap.size w W
  n1 : w.heap.size + 2 ≤ bu
  n2 : w.heap.size + 2 ≤ bp
  n3 : bu ≠ bp
  n4 : w.heap.size + 2 ≤ rb
  n5 : rb ≠ bu ∧ rb ≠ bp
theorem free_of_row {W : World} {g : Nat} {cs : Array Value} {t : TypeId} (h : W.heap[g]? = some (.cells cs t (0, 0))) (i : Nat) : W.frozen? ⟨g, i, none⟩ = false := by simp [World.frozen?, h]
theorem TailRow.lt {W : World} {rb off : Nat} {l : List Int} (h : TailRow W rb off l) : rb < W.heap.size := by
  obtain ⟨cs, h1, _⟩ := h.row
  exact blk_lt h1
theorem TailRow.far {W : World} {rb off : Nat} {l : List Int} (h : TailRow W rb off l) {p : Addr} (hp : rb ≠ p.block) (v : Value) : TailRow (W.setCell p v) rb off l := by
  obtain ⟨cs, h1, h2⟩ := h.row
  exact ⟨⟨cs, (blk_far hp).trans h1, h2⟩, h.rng, h.len⟩
theorem MadeAt.far {w W W' : World} {P : Value} {A : Option Addr} {c : Nat} {bs : List Blk} {rb off : Nat} {l : List Int} {bu bp : Nat} {U Pl : List Int} (h : MadeAt w W P A c bs rb off l bu bp U Pl) (hk : ∀ {k : Nat} {o : Obj}, (k = bu ∨ k = bp ∨ k = w.heap.size + 1 ∨ k = w.heap.size ∨ k = rb) → W.heap[k]? = some o → W'.heap[k]? = some o) (hb : Below w.heap.size W W') : MadeAt w W' P A c bs rb off l bu bp U Pl := by
  refine ⟨hk (by omega) h.ub, hk (by omega) h.pb, hk (by omega) h.tree, hk (by omega) h.func, ?_, h.bel.trans hb, h.n1, h.n2, h.n3, h.n4, h.n5⟩
  obtain ⟨cs, h1, h2⟩ := h.row.row
  exact ⟨⟨cs, hk (by omega) h1, h2⟩, h.row.rng, h.row.len⟩
theorem MadeAt.below {w W W' : World} {P : Value} {A : Option Addr} {c : Nat} {bs : List Blk} {rb off : Nat} {l : List Int} {bu bp : Nat} {U Pl : List Int} (h : MadeAt w W P A c bs rb off l bu bp U Pl) (hb : Below W.heap.size W W') : MadeAt w W' P A c bs rb off l bu bp U Pl :=
  h.far (fun _ hk => blk_below hb hk (blk_lt hk)) (hb.mono h.bel.size)
theorem set_row (xs : List Int) (i : Nat) (v : Int) : ((xs.map (Value.int .i64)).toArray.setIfInBounds i (.int .i64 v)) = ((xs.set i v).map (Value.int .i64)).toArray := by
  rw [List.setIfInBounds_toArray, List.map_set]
theorem MadeAt.setP {w W : World} {P : Value} {A : Option Addr} {c : Nat} {bs : List Blk} {rb off : Nat} {l : List Int} {bu bp : Nat} {U Pl : List Int} (h : MadeAt w W P A c bs rb off l bu bp U Pl) (i : Nat) (v : Int) : MadeAt w (W.setCell ⟨bp, i, none⟩ (.int .i64 v)) P A c bs rb off l bu bp U (Pl.set i v) := by
  have n1 := h.n1; have n2 := h.n2; have n3 := h.n3; have n4 := h.n4; have n5 := h.n5
  have far : ∀ {k : Nat} {o : Obj}, W.heap[k]? = some o → k ≠ bp → (W.setCell ⟨bp, i, none⟩ (.int .i64 v)).heap[k]? = some o := fun h hk => (blk_far (p := ⟨bp, i, none⟩) hk).trans h
  refine ⟨far h.ub n3, ?_, far h.tree (by omega), far h.func (by omega), h.row.far (p := ⟨bp, i, none⟩) n5.2 _, h.bel.setCell (p := ⟨bp, i, none⟩) (by simp; omega) _, n1, n2, n3, n4, n5⟩
  rw [blk_set h.pb, set_row]
theorem MadeAt.setU {w W : World} {P : Value} {A : Option Addr} {c : Nat} {bs : List Blk} {rb off : Nat} {l : List Int} {bu bp : Nat} {U Pl : List Int} (h : MadeAt w W P A c bs rb off l bu bp U Pl) (i : Nat) (v : Int) : MadeAt w (W.setCell ⟨bu, i, none⟩ (.int .i64 v)) P A c bs rb off l bu bp (U.set i v) Pl := by
  have n1 := h.n1; have n2 := h.n2; have n3 := h.n3; have n4 := h.n4; have n5 := h.n5
  have far : ∀ {k : Nat} {o : Obj}, W.heap[k]? = some o → k ≠ bu → (W.setCell ⟨bu, i, none⟩ (.int .i64 v)).heap[k]? = some o := fun h hk => (blk_far (p := ⟨bu, i, none⟩) hk).trans h
  refine ⟨?_, far h.pb n3.symm, far h.tree (by omega), far h.func (by omega), h.row.far (p := ⟨bu, i, none⟩) n5.1 _, h.bel.setCell (p := ⟨bu, i, none⟩) (by simp; omega) _, n1, n2, n3, n4, n5⟩
  rw [blk_set h.ub, set_row]
theorem row_cell {W : World} {g : Nat} {xs : List Int} (h : W.heap[g]? = some (.cells (xs.map (Value.int .i64)).toArray 3 (0, 0))) {i : Nat} (hi : i < xs.length) : W.cell? ⟨g, i, none⟩ = some (.int .i64 (gI xs i)) := by
  rw [cell_of_row _ _ _ _ _ _ h]
  simp [gI, hi]
theorem MadeAt.tc0 {w W : World} {P : Value} {A : Option Addr} {c : Nat} {bs : List Blk} {rb off : Nat} {l : List Int} {bu bp : Nat} {U Pl : List Int} (h : MadeAt w W P A c bs rb off l bu bp U Pl) : W.cell? ⟨w.heap.size + 1, 0, none⟩ = some (.slice (some ⟨bu, 0, none⟩) bs.length bs.length) := (cell_of_row _ _ _ _ _ _ h.tree).trans rfl
theorem MadeAt.tc1 {w W : World} {P : Value} {A : Option Addr} {c : Nat} {bs : List Blk} {rb off : Nat} {l : List Int} {bu bp : Nat} {U Pl : List Int} (h : MadeAt w W P A c bs rb off l bu bp U Pl) : W.cell? ⟨w.heap.size + 1, 1, none⟩ = some (.slice (some ⟨bp, 0, none⟩) bs.length bs.length) := (cell_of_row _ _ _ _ _ _ h.tree).trans rfl
theorem MadeAt.fc1 {w W : World} {P : Value} {A : Option Addr} {c : Nat} {bs : List Blk} {rb off : Nat} {l : List Int} {bu bp : Nat} {U Pl : List Int} (h : MadeAt w W P A c bs rb off l bu bp U Pl) : W.cell? ⟨w.heap.size, 1, none⟩ = some (.slice A bs.length c) := (cell_of_row _ _ _ _ _ _ h.func).trans rfl

theorem infoSl : (Try.prog.info? 22).map (fun i => (i.zero, i.size, i.bytes)) = some (some (.slice none 0 0), 1, 24) := by kernel_rfl
def gV (vs : List Value) (t : Nat) : Value := vs[t]?.getD undef
/-- The rows of those from which edges come, each a block of its own. -/
structure IntoAt (W : World) (B ib n : Nat) (vs : List Value) (es : List Ed) : Prop where
  len : vs.length = n
  row : W.heap[ib]? = some (.cells vs.toArray 22 (0, 0))
  own : ∀ t : Nat, t < n → W.ownsRow B 3 1 (gV vs t) (predsTo es t).length ((predsTo es t).map (Value.int .i64))
  ne : ∀ t t' g : Nat, t < n → t' < n → t ≠ t' → (gV vs t).ownBlock = some g → (gV vs t').ownBlock ≠ some g
  ibB : ib < B
theorem predsTo_snoc (es : List Ed) (e : Ed) (x : Int) : predsTo (es ++ [e]) x = predsTo es x ++ if e.t = x then [e.f] else [] := by
  unfold predsTo
  rw [List.filter_append, List.map_append]
  by_cases h : e.t = x <;> simp [h]
theorem grown_trans {W0 A C : World} {ib : Nat} {row : Option Nat} (h : W0.grownBy A (some ib)) (k : A.grownBy C row) (hr : ∀ g, row = some g → g = ib ∨ W0.heap.size ≤ g) : W0.grownBy C (some ib) :=
  ⟨k.os.trans h.os, k.tape.trans h.tape, k.output.trans h.output, Nat.le_trans h.size k.size, fun j hj hne => (k.block j (Nat.lt_of_lt_of_le hj h.size) (fun e => by
    rcases hr j e.symm with q | q
    · exact hne (by rw [q])
    · omega)).trans (h.block j hj hne)⟩
theorem IntoAt.below {W W' : World} {B ib n : Nat} {vs : List Value} {es : List Ed} (h : IntoAt W B ib n vs es) (hb : Below W.heap.size W W') : IntoAt W' B ib n vs es :=
  ⟨h.len, blk_below hb h.row (blk_lt h.row), fun t ht => own_far (h.own t ht) (fun _ _ _ hk => blk_below hb hk (blk_lt hk)), h.ne, h.ibB⟩
theorem IntoAt.snoc {W1 W2 : World} {B ib n : Nat} {vs : List Value} {es : List Ed} (h : IntoAt W1 B ib n vs es) (hB : B ≤ W1.heap.size) {t : Nat} (ht : t < n) {e : Ed} (he : e.t = (t : Int)) {v' : Value} (hg : W1.grownBy W2 (gV vs t).ownBlock)
    (ho : W2.ownsRow B 3 1 v' (predsTo es t ++ [e.f]).length ((predsTo es t ++ [e.f]).map (Value.int .i64))) (hv : v'.ownBlock = (gV vs t).ownBlock ∨ v'.ownBlock = some W1.heap.size) :
    IntoAt (W2.setCell ⟨ib, t, none⟩ v') B ib n (vs.set t v') (es ++ [e]) := by
  have hib := h.ibB
  have blk : ∀ s, s < n → (gV vs s).ownBlock = none ∨ ∃ g c, (gV vs s).ownBlock = some g ∧ B ≤ g ∧ W1.heap[g]? = some (.cells c 3 (0, 0)) := fun s hs => own_blk (h.own s hs)
  have hrow2 : W2.heap[ib]? = some (.cells vs.toArray 22 (0, 0)) := by
    refine (hg.block ib (by omega) (fun q => ?_)).trans h.row
    rcases blk t ht with q2 | ⟨g, c, q2, q3, _⟩
    · rw [q2] at q; cases q
    · rw [q2] at q; cases q; omega
  have gset : ∀ s, s < n → gV (vs.set t v') s = if t = s then v' else gV vs s := fun s hs => by
    unfold gV
    rw [List.getElem?_set]
    by_cases q : t = s
    · subst q
      rw [if_pos rfl, if_pos rfl, if_pos (by rw [h.len]; exact ht)]; rfl
    · rw [if_neg q, if_neg q]
  refine ⟨by rw [List.length_set, h.len], ?_, fun s hs => ?_, fun s s' g hs hs' hne hsg => ?_, hib⟩
  · have := blk_set (i := t) (v := v') hrow2
    rw [List.setIfInBounds_toArray] at this
    exact this
  · rw [gset s hs, predsTo_snoc]
    by_cases q : t = s
    · subst q
      rw [if_pos rfl, if_pos he]
      refine own_far ho (fun g o hg2 hk => (blk_far (p := ⟨ib, t, none⟩) ?_).trans hk)
      rcases hv with e1 | e1
      · rcases blk t ht with q2 | ⟨g', c, q2, q3, _⟩
        · rw [e1, q2] at hg2; cases hg2
        · rw [e1, q2] at hg2; cases hg2; simp only; omega
      · rw [e1] at hg2; cases hg2; simp only; omega
    · have hq : ¬ e.t = (s : Int) := by rw [he]; omega
      rw [if_neg q, if_neg hq, List.append_nil]
      refine own_far (h.own s hs) (fun g o hg2 hk => ?_)
      have hgB : B ≤ g := by
        rcases blk s hs with q2 | ⟨g', c, q2, q3, _⟩
        · rw [hg2] at q2; cases q2
        · rw [hg2] at q2; cases q2; exact q3
      refine (blk_far (p := ⟨ib, t, none⟩) (show g ≠ ib by omega)).trans ((hg.block g (blk_lt hk) (fun q3 => ?_)).trans hk)
      exact h.ne s t g hs ht (fun q4 => q q4.symm) hg2 q3.symm
  · rw [gset s hs] at hsg
    rw [gset s' hs']
    have fresh : ∀ x, x < n → (gV vs x).ownBlock ≠ some W1.heap.size := fun x hx q => by
      rcases blk x hx with q2 | ⟨g', c, q2, _, q4⟩
      · rw [q] at q2; cases q2
      · rw [q] at q2; cases q2; exact absurd (blk_lt q4) (by omega)
    by_cases q : t = s
    · subst q
      rw [if_pos rfl] at hsg
      rw [if_neg hne]
      rcases hv with e1 | e1
      · rw [e1] at hsg; exact h.ne t s' g ht hs' hne hsg
      · rw [e1] at hsg; cases hsg; exact fresh s' hs'
    · rw [if_neg q] at hsg
      by_cases q2 : t = s'
      · subst q2
        rw [if_pos rfl]
        rcases hv with e1 | e1
        · rw [e1]; exact h.ne s t g hs ht hne hsg
        · rw [e1]; intro q3; cases q3; exact fresh s hs hsg
      · rw [if_neg q2]
        exact h.ne s s' g hs hs' hne hsg

theorem IntoAt.far {W W' : World} {B ib n : Nat} {vs : List Value} {es : List Ed} (h : IntoAt W B ib n vs es) (hk : ∀ (k : Nat) (o : Obj), (k = ib ∨ B ≤ k) → W.heap[k]? = some o → W'.heap[k]? = some o) : IntoAt W' B ib n vs es :=
  ⟨h.len, hk ib _ (.inl rfl) h.row, fun t ht => own_far (h.own t ht) (fun g o hg ho => hk g o (.inr (by
    rcases own_blk (h.own t ht) with q | ⟨g', c, q, q2, _⟩
    · rw [hg] at q; cases q
    · rw [hg] at q; cases q; exact q2)) ho), h.ne, h.ibB⟩

theorem MadeAt.start {w V : World} {P : Value} {A : Option Addr} {c : Nat} {bs : List Blk} {rb off : Nat} {l : List Int} {bu bp : Nat} {U Pl : List Int}
    (ht : V.heap[w.heap.size + 1]? = some (.cells #[.slice none 0 0, .slice none 0 0] 57 (0, 0))) (hs : V.heap[w.heap.size]? = some (.cells #[P, .slice A bs.length c] 25 (0, 0))) (hl : TailRow V rb off l) (hB : Below w.heap.size w V)
    (hu : V.heap[bu]? = some (.cells (U.map (Value.int .i64)).toArray 3 (0, 0))) (hp : V.heap[bp]? = some (.cells (Pl.map (Value.int .i64)).toArray 3 (0, 0))) (n1 : w.heap.size + 2 ≤ bu) (n2 : w.heap.size + 2 ≤ bp) (n3 : bu ≠ bp) (n4 : w.heap.size + 2 ≤ rb) (n5 : rb ≠ bu) (n6 : rb ≠ bp) :
    MadeAt w ((V.setCell ⟨w.heap.size + 1, 0, none⟩ (.slice (some ⟨bu, 0, none⟩) bs.length bs.length)).setCell ⟨w.heap.size + 1, 1, none⟩ (.slice (some ⟨bp, 0, none⟩) bs.length bs.length)) P A c bs rb off l bu bp U Pl := by
  have far : ∀ {k : Nat} {o : Obj}, V.heap[k]? = some o → k ≠ w.heap.size + 1 → ((V.setCell ⟨w.heap.size + 1, 0, none⟩ (.slice (some ⟨bu, 0, none⟩) bs.length bs.length)).setCell ⟨w.heap.size + 1, 1, none⟩ (.slice (some ⟨bp, 0, none⟩) bs.length bs.length)).heap[k]? = some o := fun h hk =>
    (blk_far (p := ⟨w.heap.size + 1, 1, none⟩) hk).trans ((blk_far (p := ⟨w.heap.size + 1, 0, none⟩) hk).trans h)
  refine ⟨far hu (by omega), far hp (by omega), ?_, far hs (by omega), (hl.far (p := ⟨w.heap.size + 1, 0, none⟩) (by simp only; omega) _).far (p := ⟨w.heap.size + 1, 1, none⟩) (by simp only; omega) _, ?_, n1, n2, n3, n4, n5, n6⟩
  · exact blk_set (i := 1) (blk_set (i := 0) ht)
  · exact (hB.setCell (p := ⟨w.heap.size + 1, 0, none⟩) (by simp) _).setCell (p := ⟨w.heap.size + 1, 1, none⟩) (by simp) _

set_option maxRecDepth 100000 in
set_option maxHeartbeats 4000000 in
theorem made_yes (P : Value) (A : Option Addr) (c : Nat) (bs : List Blk) (w : World) (hr : RF w A bs) (hcl : closedB bs = true) :
    Calls Try.prog 20 #[.agg #[P, .slice A bs.length c]] w (Made w bs) := by
  have hc := closed_cl hr.ok hcl
  have hle := hc.le
  have hpos := hc.pos
  have hb0 := (Below.refl w.heap.size w).alloc (Nat.le_refl _) (.cells #[P, .slice A bs.length c] 25)
  have hb1 := hb0.alloc (by simp) (.cells #[.slice none 0 0, .slice none 0 0] 57)
  have hs := (blk_old (w.alloc (.cells #[P, .slice A bs.length c] 25)) (.cells #[.slice none 0 0, .slice none 0 0] 57) (by simp)).trans (blk_new w (.cells #[P, .slice A bs.length c] 25))
  have ht := blk_new (w.alloc (.cells #[P, .slice A bs.length c] 25)) (.cells #[.slice none 0 0, .slice none 0 0] 57)
  rw [World.size_alloc] at ht
  have q := fun W hW => Closed_any P A c bs W (hr.below (w' := W) hW)
  rw [hcl] at q
  go_enter Try.func20, Try.ntmps20
  go_wp2_with (refine wpList_load_row rfl _ _ rfl _ rfl _ _ _ _ hs Try.underlying25 rfl (by kernel_rfl) ?_)
  refine (q _ hb1).mono ?_
  rintro e W1 ⟨rfl, hbx⟩
  have hB1 := hb1.trans (hbx.mono hb1.size)
  have ht1 := blk_below hbx ht (blk_lt ht)
  have hs1 := blk_below hbx hs (blk_lt hs)
  clear hbx hb0 hb1 ht hs q
  go_wp2_with (refine wpList_load_row rfl _ _ rfl _ rfl _ _ _ _ hs1 Try.underlying25 rfl (by kernel_rfl) ?_)
  refine (Order_yes P A c bs _ (hr.below hB1) hcl).mono ?_
  rintro e W2 ⟨l, rb, off, hord, rfl, hrow, hrb, hbx⟩
  have hB2 := hB1.trans (hbx.mono hB1.size)
  have hrb2 : w.heap.size + 2 ≤ rb := by
    have := blk_lt ht1
    omega
  have ht2 := blk_below hbx ht1 (blk_lt ht1)
  have hs2 := blk_below hbx hs1 (blk_lt hs1)
  clear hbx ht1 hs1
  go_wp2
  refine Code.wp_mono (Q := fun e a' W => e = .normal ∧ ∃ v21 v26 : Value, ∃ bu bp : Nat, a' = { tmps := #[.agg #[P, .slice A bs.length c], .pointer (some ⟨w.heap.size, 0, none⟩), .pointer (some ⟨w.heap.size + 1, 0, none⟩), .slice (some ⟨rb, off, none⟩) l.length l.length, undef, undef, undef, undef, undef, undef, undef, undef, undef, undef, undef, .agg #[P, .slice A bs.length c], .bool true, .bool false, undef, .agg #[P, .slice A bs.length c], .slice (some ⟨rb, off, none⟩) l.length l.length, v21, .pointer (some ⟨w.heap.size, 1, none⟩), .slice A bs.length c, .int .i64 (bs.length : Int), .slice (some ⟨bu, 0, none⟩) bs.length bs.length, v26, .pointer (some ⟨w.heap.size, 1, none⟩), .slice A bs.length c, .int .i64 (bs.length : Int), .slice (some ⟨bp, 0, none⟩) bs.length bs.length, .pointer (some ⟨w.heap.size + 1, 0, none⟩), .pointer (some ⟨w.heap.size + 1, 1, none⟩), undef, undef, undef, undef, undef, undef, undef, undef, undef, undef, undef, undef, undef, undef, undef, undef, undef, undef, undef, undef, undef, undef, undef, undef, undef, undef, undef, undef, undef, undef, undef, undef, undef, undef, undef, undef, undef, undef, undef, undef, undef, undef, undef, undef, undef, undef, undef, undef, undef, undef, undef, undef, undef, undef, undef, undef, undef, undef, undef, undef, undef, undef, undef, undef, undef, undef, undef, undef, undef, undef, undef, undef, undef, undef, undef, undef, undef, undef, undef, undef, undef, undef, undef, undef, undef, undef, undef, undef, undef], defers := [] } ∧ MadeAt w W P A c bs rb off l bu bp (List.replicate bs.length (-1)) (List.replicate bs.length (-1))) ?rest ?hreg
  case hreg =>
    have hf2 := (cell_of_row _ _ 1 _ _ _ hs2).trans (show #[P, .slice A bs.length c][1]? = some (.slice A bs.length c) from rfl)
    have hfc : ∀ W, Below W2.heap.size W2 W → W.cell? ⟨w.heap.size, 1, none⟩ = some (.slice A bs.length c) := fun W hW => (hW.cell (p := ⟨w.heap.size, 1, none⟩) (blk_lt hs2)).trans hf2
    change Code.wp _ _ _ (Act.mk _ _) _
    refine wp_region_tree_tail (S := fun W => ∃ p : Regrown, W = Sort.grow (redrawn W2 p.d) p.os) (.look [1, 2, 3, 6, 7, 8] (.two 0 (.two 4 (.look [10] (.one 5 (.one 9 .done))) 5 (.one 4 (.look [10] (.one 9 .done)))) 5 (.one 0 (.one 4 (.look [10] (.one 9 .done)))))) (by kernel_rfl) (by kernel_rfl) (regrown_of_below ((Below.refl W2.heap.size W2).drew)) (fun d _ _ _ _ h => by cases h.1) ?_
    refine tree_look ?_
    dsimp only [pickL, nthO]
    repeat (first
      | go_big_quiet_skip
      | (go_big_quiet_want; first
          | (go_big_quiet_op; go_big_quiet_on)
          | ((first
              | refine q_go ⟨_, ⟨0, #[]⟩, rfl⟩ (fun K' hk => q_loadS _ _ rfl ⟨w.heap.size, 1, none⟩ rfl _ Try.underlying23 _ (fun W hW => hfc W (below_of_grow hW)) hk) ?_); go_big_quiet_op; go_big_quiet_on)))
    refine wpQuiet_nil ?_
    have hbel : Below W2.heap.size W2 W2.drew := (Below.refl _ _).drew
    obtain ⟨V0, hV0⟩ : ∃ V0, W2.drew = V0 := ⟨_, rfl⟩
    change wpTree _ _ _ _ _ _ _ W2.drew
    rw [hV0] at hbel ⊢
    clear hV0 hfc hf2
    refine tree_two rfl rfl ?_ ?_
    · go_wp2
      have ha := blk_new V0 (.cells #[.int .i64 (-1)] 3)
      have hstep : Below V0.heap.size V0 (V0.alloc (.cells #[.int .i64 (-1)] 3)) := (Below.refl _ _).alloc (Nat.le_refl _) _
      obtain ⟨ga, hga⟩ : ∃ g, V0.heap.size = g := ⟨_, rfl⟩
      rw [hga] at ha
      simp only [hga]
      generalize V0.alloc (.cells #[.int .i64 (-1)] 3) = V1 at *
      have hbel1 := hbel.trans (hstep.mono hbel.size)
      clear hstep
      refine ⟨regrown_of_below hbel1, ?_⟩
      refine tree_two rfl rfl ?_ ?_
      · go_wp2_with fail
        refine (Repeat_one (-1) ga 1 bs.length hpos hle V1 (RI_lit ha (by intro x hx; simp at hx; subst hx; exact ⟨by omega, by omega⟩) (by simp))).mono ?_
        rintro e V2 ⟨bu, rfl, hbu, hru, hstep⟩
        rw [List.length_replicate]
        go_wp2
        have hbu2 : W2.heap.size ≤ bu := Nat.le_trans hbel1.size hbu
        have ha := blk_below hstep ha (blk_lt ha)
        have hbel2 := hbel1.trans (hstep.mono hbel1.size)
        clear hstep
        refine ⟨regrown_of_below hbel2, ?_⟩
        refine tree_look ?_
        dsimp only [pickL, nthO]
        repeat (first | go_big_quiet_skip | (go_big_quiet_want; (go_big_quiet_op; go_big_quiet_on)))
        refine wpQuiet_nil ?_
        refine tree_one rfl ?_
        go_wp2
        have hb := blk_new V2 (.cells #[.int .i64 (-1)] 3)
        have hstep : Below V2.heap.size V2 (V2.alloc (.cells #[.int .i64 (-1)] 3)) := (Below.refl _ _).alloc (Nat.le_refl _) _
        obtain ⟨gb, hgb⟩ : ∃ g, V2.heap.size = g := ⟨_, rfl⟩
        rw [hgb] at hb
        simp only [hgb]
        generalize V2.alloc (.cells #[.int .i64 (-1)] 3) = V3 at *
        have ha := blk_below hstep ha (blk_lt ha)
        have hru := blk_below hstep hru (blk_lt hru)
        have hbel3 := hbel2.trans (hstep.mono hbel2.size)
        clear hstep
        refine ⟨regrown_of_below hbel3, ?_⟩
        refine tree_one rfl ?_
        go_wp2_with fail
        refine (Repeat_one (-1) gb 1 bs.length hpos hle V3 (RI_lit hb (by intro x hx; simp at hx; subst hx; exact ⟨by omega, by omega⟩) (by simp))).mono ?_
        rintro e V4 ⟨bp, rfl, hbp, hrp, hstep⟩
        rw [List.length_replicate]
        go_wp2
        have hbp2 : W2.heap.size ≤ bp := Nat.le_trans hbel3.size hbp
        have hne : bu < bp := Nat.lt_of_lt_of_le (blk_lt hru) hbp
        have ha := blk_below hstep ha (blk_lt ha)
        have hru := blk_below hstep hru (blk_lt hru)
        have hb := blk_below hstep hb (blk_lt hb)
        have hbel4 := hbel3.trans (hstep.mono hbel3.size)
        clear hstep
        refine ⟨regrown_of_below hbel4, ?_⟩
        refine tree_done ?_
        simp only [MT.deep, List.length_cons, List.length_nil, Nat.reduceAdd, List.drop_succ_cons, List.drop_zero]
        have ht4 := blk_below hbel4 ht2 (blk_lt ht2)
        have hs4 := blk_below hbel4 hs2 (blk_lt hs2)
        have hB4 := hB2.trans (hbel4.mono hB2.size)
        have hl4 := hrow.below hbel4
        clear hbel
        have tc0 : V4.cell? ⟨w.heap.size + 1, 0, none⟩ = some (.slice none 0 0) := (cell_of_row _ _ _ _ _ _ ht4).trans rfl
        have tf0 : V4.frozen? ⟨w.heap.size + 1, 0, none⟩ = false := free_of_row ht4 0
        have ht5 := blk_set (i := 0) (v := .slice (some ⟨bu, 0, none⟩) bs.length bs.length) ht4
        have tc1 : (V4.setCell ⟨w.heap.size + 1, 0, none⟩ (.slice (some ⟨bu, 0, none⟩) bs.length bs.length)).cell? ⟨w.heap.size + 1, 1, none⟩ = some (.slice none 0 0) := (cell_of_row _ _ _ _ _ _ ht5).trans rfl
        have tf1 := free_of_row ht5 1
        have ht6 := blk_set (i := 1) (v := .slice (some ⟨bp, 0, none⟩) bs.length bs.length) ht5
        go_wp2
        have hwt := blk_lt ht2
        refine ⟨_, _, bu, bp, ⟨rfl, rfl, rfl, rfl⟩, ?_⟩
        exact MadeAt.start ht4 hs4 hl4 hB4 hru hrp (by omega) (by omega) (by omega) hrb2 (by have := hrow.lt; omega) (by have := hrow.lt; omega)
      · go_wp2
        have hb := blk_new V1 (.cells #[.int .i64 (-1)] 3)
        have hstep : Below V1.heap.size V1 (V1.alloc (.cells #[.int .i64 (-1)] 3)) := (Below.refl _ _).alloc (Nat.le_refl _) _
        obtain ⟨gb, hgb⟩ : ∃ g, V1.heap.size = g := ⟨_, rfl⟩
        rw [hgb] at hb
        simp only [hgb]
        generalize V1.alloc (.cells #[.int .i64 (-1)] 3) = V2 at *
        have ha := blk_below hstep ha (blk_lt ha)
        have hbel2 := hbel1.trans (hstep.mono hbel1.size)
        clear hstep
        refine ⟨regrown_of_below hbel2, ?_⟩
        refine tree_one rfl ?_
        go_wp2_with fail
        refine (Repeat_one (-1) ga 1 bs.length hpos hle V2 (RI_lit ha (by intro x hx; simp at hx; subst hx; exact ⟨by omega, by omega⟩) (by simp))).mono ?_
        rintro e V3 ⟨bu, rfl, hbu, hru, hstep⟩
        rw [List.length_replicate]
        go_wp2
        have hbu2 : W2.heap.size ≤ bu := Nat.le_trans hbel2.size hbu
        have ha := blk_below hstep ha (blk_lt ha)
        have hb := blk_below hstep hb (blk_lt hb)
        have hbel3 := hbel2.trans (hstep.mono hbel2.size)
        clear hstep
        refine ⟨regrown_of_below hbel3, ?_⟩
        refine tree_look ?_
        dsimp only [pickL, nthO]
        repeat (first | go_big_quiet_skip | (go_big_quiet_want; (go_big_quiet_op; go_big_quiet_on)))
        refine wpQuiet_nil ?_
        refine tree_one rfl ?_
        go_wp2_with fail
        refine (Repeat_one (-1) gb 1 bs.length hpos hle V3 (RI_lit hb (by intro x hx; simp at hx; subst hx; exact ⟨by omega, by omega⟩) (by simp))).mono ?_
        rintro e V4 ⟨bp, rfl, hbp, hrp, hstep⟩
        rw [List.length_replicate]
        go_wp2
        have hbp2 : W2.heap.size ≤ bp := Nat.le_trans hbel3.size hbp
        have hne : bu < bp := Nat.lt_of_lt_of_le (blk_lt hru) hbp
        have ha := blk_below hstep ha (blk_lt ha)
        have hb := blk_below hstep hb (blk_lt hb)
        have hru := blk_below hstep hru (blk_lt hru)
        have hbel4 := hbel3.trans (hstep.mono hbel3.size)
        clear hstep
        refine ⟨regrown_of_below hbel4, ?_⟩
        refine tree_done ?_
        simp only [MT.deep, List.length_cons, List.length_nil, Nat.reduceAdd, List.drop_succ_cons, List.drop_zero]
        have ht4 := blk_below hbel4 ht2 (blk_lt ht2)
        have hs4 := blk_below hbel4 hs2 (blk_lt hs2)
        have hB4 := hB2.trans (hbel4.mono hB2.size)
        have hl4 := hrow.below hbel4
        clear hbel
        have tc0 : V4.cell? ⟨w.heap.size + 1, 0, none⟩ = some (.slice none 0 0) := (cell_of_row _ _ _ _ _ _ ht4).trans rfl
        have tf0 : V4.frozen? ⟨w.heap.size + 1, 0, none⟩ = false := free_of_row ht4 0
        have ht5 := blk_set (i := 0) (v := .slice (some ⟨bu, 0, none⟩) bs.length bs.length) ht4
        have tc1 : (V4.setCell ⟨w.heap.size + 1, 0, none⟩ (.slice (some ⟨bu, 0, none⟩) bs.length bs.length)).cell? ⟨w.heap.size + 1, 1, none⟩ = some (.slice none 0 0) := (cell_of_row _ _ _ _ _ _ ht5).trans rfl
        have tf1 := free_of_row ht5 1
        have ht6 := blk_set (i := 1) (v := .slice (some ⟨bp, 0, none⟩) bs.length bs.length) ht5
        go_wp2
        have hwt := blk_lt ht2
        refine ⟨_, _, bu, bp, ⟨rfl, rfl, rfl, rfl⟩, ?_⟩
        exact MadeAt.start ht4 hs4 hl4 hB4 hru hrp (by omega) (by omega) (by omega) hrb2 (by have := hrow.lt; omega) (by have := hrow.lt; omega)
    · go_wp2
      have hb := blk_new V0 (.cells #[.int .i64 (-1)] 3)
      have hstep : Below V0.heap.size V0 (V0.alloc (.cells #[.int .i64 (-1)] 3)) := (Below.refl _ _).alloc (Nat.le_refl _) _
      obtain ⟨gb, hgb⟩ : ∃ g, V0.heap.size = g := ⟨_, rfl⟩
      rw [hgb] at hb
      simp only [hgb]
      generalize V0.alloc (.cells #[.int .i64 (-1)] 3) = V1 at *
      have hbel1 := hbel.trans (hstep.mono hbel.size)
      clear hstep
      refine ⟨regrown_of_below hbel1, ?_⟩
      refine tree_one rfl ?_
      go_wp2
      have ha := blk_new V1 (.cells #[.int .i64 (-1)] 3)
      have hstep : Below V1.heap.size V1 (V1.alloc (.cells #[.int .i64 (-1)] 3)) := (Below.refl _ _).alloc (Nat.le_refl _) _
      obtain ⟨ga, hga⟩ : ∃ g, V1.heap.size = g := ⟨_, rfl⟩
      rw [hga] at ha
      simp only [hga]
      generalize V1.alloc (.cells #[.int .i64 (-1)] 3) = V2 at *
      have hb := blk_below hstep hb (blk_lt hb)
      have hbel2 := hbel1.trans (hstep.mono hbel1.size)
      clear hstep
      refine ⟨regrown_of_below hbel2, ?_⟩
      refine tree_one rfl ?_
      go_wp2_with fail
      refine (Repeat_one (-1) ga 1 bs.length hpos hle V2 (RI_lit ha (by intro x hx; simp at hx; subst hx; exact ⟨by omega, by omega⟩) (by simp))).mono ?_
      rintro e V3 ⟨bu, rfl, hbu, hru, hstep⟩
      rw [List.length_replicate]
      go_wp2
      have hbu2 : W2.heap.size ≤ bu := Nat.le_trans hbel2.size hbu
      have hb := blk_below hstep hb (blk_lt hb)
      have ha := blk_below hstep ha (blk_lt ha)
      have hbel3 := hbel2.trans (hstep.mono hbel2.size)
      clear hstep
      refine ⟨regrown_of_below hbel3, ?_⟩
      refine tree_look ?_
      dsimp only [pickL, nthO]
      repeat (first | go_big_quiet_skip | (go_big_quiet_want; (go_big_quiet_op; go_big_quiet_on)))
      refine wpQuiet_nil ?_
      refine tree_one rfl ?_
      go_wp2_with fail
      refine (Repeat_one (-1) gb 1 bs.length hpos hle V3 (RI_lit hb (by intro x hx; simp at hx; subst hx; exact ⟨by omega, by omega⟩) (by simp))).mono ?_
      rintro e V4 ⟨bp, rfl, hbp, hrp, hstep⟩
      rw [List.length_replicate]
      go_wp2
      have hbp2 : W2.heap.size ≤ bp := Nat.le_trans hbel3.size hbp
      have hne : bu < bp := Nat.lt_of_lt_of_le (blk_lt hru) hbp
      have hb := blk_below hstep hb (blk_lt hb)
      have ha := blk_below hstep ha (blk_lt ha)
      have hru := blk_below hstep hru (blk_lt hru)
      have hbel4 := hbel3.trans (hstep.mono hbel3.size)
      clear hstep
      refine ⟨regrown_of_below hbel4, ?_⟩
      refine tree_done ?_
      simp only [MT.deep, List.length_cons, List.length_nil, Nat.reduceAdd, List.drop_succ_cons, List.drop_zero]
      have ht4 := blk_below hbel4 ht2 (blk_lt ht2)
      have hs4 := blk_below hbel4 hs2 (blk_lt hs2)
      have hB4 := hB2.trans (hbel4.mono hB2.size)
      have hl4 := hrow.below hbel4
      clear hbel
      have tc0 : V4.cell? ⟨w.heap.size + 1, 0, none⟩ = some (.slice none 0 0) := (cell_of_row _ _ _ _ _ _ ht4).trans rfl
      have tf0 : V4.frozen? ⟨w.heap.size + 1, 0, none⟩ = false := free_of_row ht4 0
      have ht5 := blk_set (i := 0) (v := .slice (some ⟨bu, 0, none⟩) bs.length bs.length) ht4
      have tc1 : (V4.setCell ⟨w.heap.size + 1, 0, none⟩ (.slice (some ⟨bu, 0, none⟩) bs.length bs.length)).cell? ⟨w.heap.size + 1, 1, none⟩ = some (.slice none 0 0) := (cell_of_row _ _ _ _ _ _ ht5).trans rfl
      have tf1 := free_of_row ht5 1
      have ht6 := blk_set (i := 1) (v := .slice (some ⟨bp, 0, none⟩) bs.length bs.length) ht5
      go_wp2
      have hwt := blk_lt ht2
      refine ⟨_, _, bu, bp, ⟨rfl, rfl, rfl, rfl⟩, ?_⟩
      exact MadeAt.start ht4 hs4 hl4 hB4 hru hrp (by omega) (by omega) (by omega) hrb2 (by have := hrow.lt; omega) (by have := hrow.lt; omega)
  case rest =>
    rintro e a' W3 ⟨rfl, v21, v26, bu, bp, rfl, hM⟩
    dsimp only
    clear hs2 ht2 hrow hB2
    obtain ⟨on, o0, opos, oway, ook⟩ := order_facts hc hord
    have hM0 : MadeAt w W3 P A c bs rb off l bu bp (uOf l bs.length fun _ => none) (plF l bs.length 0) := by rw [plF_zero, uOf_none]; exact hM
    clear hM
    dsimp only [Exit.then]
    go_wp2
    change Code.wp _ _ _ (Act.mk _ _) _
    go_loopw [35] (fun i wr => ∃ k : Nat, k ≤ l.length ∧ i = .int .i64 k ∧ MadeAt w wr P A c bs rb off l bu bp (uOf l bs.length fun _ => none) (plF l bs.length k)) (fun i _ => l.length - (intOf i).toNat)
    case atStart => exact ⟨0, Nat.zero_le _, rfl, hM0⟩
    case round =>
      clear hM0
      obtain ⟨k, hk, rfl, hM⟩ := hrel
      have hl10 := hM.row.len
      by_cases hkl : k < l.length
      · have hd : decide ((k : Int) < (l.length : Int)) = true := decide_eq_true (by omega)
        obtain ⟨_, _, eq, hbl, hcl, _⟩ := hM.row.RI.at_ hkl
        cases eq
        obtain ⟨b, eb, hb⟩ : ∃ b : Nat, gI l k = (b : Int) ∧ b < bs.length := by
          obtain ⟨h1, h2⟩ := ook _ (gI_mem hkl)
          exact ⟨(gI l k).toNat, by omega, by omega⟩
        rw [eb] at hcl
        have eb' := Lib.hid eb
        clear eb
        have c1 := hM.tc1
        have cp := row_cell hM.pb (i := b) (by rw [plF_len]; exact hb)
        have fp := free_of_row hM.pb b
        go_wp2
        go_roundw
        case rel => exact ⟨k + 1, by omega, by go_num, by rw [plF_succ on hkl eb'.out]; exact hM.setP b k⟩
        case measure => simp [intOf]; omega
      · obtain rfl : k = l.length := by omega
        have hd : decide ((l.length : Int) < (l.length : Int)) = false := by simp
        have f1 := hM.fc1
        obtain ⟨i0, hi, hz0, hz1, hz2⟩ := info_parts infoSl
        have hl1 := blk_lt hM.ub
        have hl2 := blk_lt hM.pb
        have hl3 := blk_lt hM.tree
        have hl4 := hM.row.lt
        go_wp2_with (first | (refine wpList_make_full _ rfl _ _ 66 rfl w.heap.size 22 i0 (.slice none 0 0) 1 Try.underlying66 hi hz0 hz1 _ _ _ _ bs.length rfl rfl rfl rfl (by rw [hz2]; omega) (by unfold maxLen; omega) hM.bel.size ?_; intro W4 hown hgr; have hW4 : Below wr.heap.size wr W4 := (Below.refl _ wr).grown hgr (Nat.le_refl _) (fun k e => by cases e); have hM4 := hM.below hW4; clear hM) | (refine wpList_load_row rfl _ _ rfl _ rfl _ _ _ _ hM4.func Try.underlying25 rfl (by kernel_rfl) ?_))
        obtain ⟨ib, hib⟩ : ∃ ib, wr.heap.size = ib := ⟨_, rfl⟩
        rw [hib] at hown
        simp only [hib]
        have hvs : W4.heap[ib]? = some (.cells (List.replicate bs.length (Value.slice none 0 0)).toArray 22 (0, 0)) := by
          rcases hown.2 with ⟨h, _⟩ | ⟨g, cap, cur, h, _, h2, _, _, h3, h4⟩
          · cases h
          · cases h
            rw [h2]
            have e1 : (madeCells (Value.slice none 0 0).cells (bs.length * 1)).toList = List.replicate bs.length (Value.slice none 0 0) := by
              have e2 : (Value.slice none 0 0).cells = #[.slice none 0 0] := rfl
              simp only [madeCells, e2]
              exact List.ext_getElem (by simp) (by intro i h1 h2; simp [Nat.mod_one])
            rw [e1, List.take_of_length_le (by simp; omega)] at h4
            rw [← h4]
        have hMn1 := hM4.n1
        rw [hib] at hl1 hl2 hl3 hl4
        clear hown hgr hW4
        refine (Edges_any P A c bs W4 (hr.below hM4.bel)).mono ?_
        rintro e W5 ⟨v5, rfl, ho5, hn5, hb5⟩
        rw [show (someE bs fun _ => true) = edgesOf bs by simp [someE, hcl]] at ho5 hn5
        have hvs5 := blk_below hb5 hvs (blk_lt hvs)
        have hM5 := hM4.below hb5
        have heI := fun e he => edge_i64 (bs := bs) hr.ok hr.len (e := e) he
        have hel := edgesTo_len bs bs.length
        have heo := fun e he => (edge_su (bs := bs) (e := e) he)
        have hgo := hc.go
        have hib5 : ib < W5.heap.size := blk_lt hvs5
        have hbase : ib < W4.heap.size := blk_lt hvs
        obtain ⟨es, hes⟩ : ∃ es, edgesOf bs = es := ⟨_, rfl⟩
        rw [show edgesTo bs bs.length = edgesOf bs from rfl, hes] at hel
        rw [hes] at ho5 heI heo
        have hes' := Lib.hid hes
        have hnib : ∀ a c m, v5 = .slice (some a) m c → a.block ≠ ib := fun a c m e q => by
          rcases ho5.2 with ⟨h, _⟩ | ⟨g, cap, cur, h, h1, _⟩
          · rw [e] at h; cases h
          · rw [e] at h; cases h; simp only at q; omega
        clear hn5 hes hb5 hM4 hvs
        obtain ⟨A5, c5, rfl, hc5, hE5⟩ := own_RE ho5 (by omega)
        clear ho5
        have hI5 : IntoAt W5 W5.heap.size ib bs.length (List.replicate bs.length (.slice none 0 0)) (es.take 0) := by
          refine ⟨by simp, hvs5, fun t ht => ?_, fun t t' g ht ht' _ hg => ?_, hib5⟩
          · have : gV (List.replicate bs.length (Value.slice none 0 0)) t = .slice none 0 0 := by simp [gV, ht]
            rw [this]
            exact World.ownsRow_nil _ _ _ _
          · have : gV (List.replicate bs.length (Value.slice none 0 0)) t = .slice none 0 0 := by simp [gV, ht]
            rw [this] at hg; cases hg
        clear hvs5
        go_wp2
        go_loopw [53] (fun i wq => ∃ (k : Nat) (vs : List Value), k ≤ es.length ∧ i = .int .i64 k ∧ W5.grownBy wq (some ib) ∧ IntoAt wq W5.heap.size ib bs.length vs (es.take k)) (fun i _ => es.length - (intOf i).toNat)
        case atStart => exact ⟨0, _, Nat.zero_le _, rfl, ⟨rfl, rfl, rfl, Nat.le_refl _, fun _ _ _ => rfl⟩, hI5⟩
        case round =>
          clear hI5
          obtain ⟨k, vs, hk, rfl, hG, hI⟩ := hrel
          by_cases hkl : k < es.length
          · have hd : decide ((k : Int) < (es.length : Int)) = true := decide_eq_true (by omega)
            have hem := gE_mem hkl
            obtain ⟨h1, h2, h3⟩ := heI _ hem
            obtain ⟨he1, he2⟩ := heo _ hem
            have he3 := hgo _ he1 _ he2
            obtain ⟨be, oe, hAe, hbe, hce⟩ := hE5.rd k hkl
            have hbn := hnib _ _ _ (by rw [hAe])
            subst hAe
            obtain ⟨q1, q2, q3⟩ := hce W5 (Below.refl _ _)
            have cg : ∀ i v, W5.cell? ⟨be, i, none⟩ = some v → wr.cell? ⟨be, i, none⟩ = some v := fun i v h => (World.cell?_of_block (hG.block be hbe (fun q => hbn (Option.some.inj q)))).trans h
            have q1 := cg _ _ q1
            have q2 := cg _ _ q2
            have q3 := cg _ _ q3
            have htk : es.take (k + 1) = es.take k ++ [gE es k] := by rw [List.take_succ_eq_append_getElem hkl, gE_eq hkl]
            have htk' := Lib.hid htk
            generalize hge : gE es k = ed at *
            have hge' := Lib.hid hge
            clear hge htk cg hce hem
            obtain ⟨ef, ea, et⟩ := ed
            simp only at q1 q2 q3 h1 h2 h3 he1 he3
            obtain ⟨t, het, ht⟩ : ∃ t : Nat, et = (t : Int) ∧ t < bs.length := by
              obtain ⟨p1, p2⟩ := he3
              exact ⟨et.toNat, by omega, by omega⟩
            subst het
            clear he1 he2 he3
            have hz := blk_new wr (.cells #[.int .i64 0, .int .i64 0, .int .i64 0] 32)
            have hG5 := hG.size
            go_wp2_with (refine wpList_store_row rfl _ _ _ rfl wr.heap.size #[.int .i64 ef, .int .i64 ea, .int .i64 (t : Int)] rfl rfl _ _ hz (by kernel_rfl) rfl (by simp [int_one]) ?_)
            have hz2 := blk_setRow hz (cs' := #[.int .i64 ef, .int .i64 ea, .int .i64 (t : Int)])
            have hW1 : Below wr.heap.size wr ((wr.alloc (.cells #[.int .i64 0, .int .i64 0, .int .i64 0] 32)).setRow wr.heap.size #[.int .i64 ef, .int .i64 ea, .int .i64 (t : Int)]) := below_setRow ((Below.refl _ wr).alloc (Nat.le_refl _) _) (Nat.le_refl _) _
            obtain ⟨eb, heb⟩ : ∃ eb, wr.heap.size = eb := ⟨_, rfl⟩
            obtain ⟨W6, hW6⟩ : ∃ W6, (wr.alloc (.cells #[.int .i64 0, .int .i64 0, .int .i64 0] 32)).setRow wr.heap.size #[.int .i64 ef, .int .i64 ea, .int .i64 (t : Int)] = W6 := ⟨_, rfl⟩
            simp only [hW6] at hz2 hW1 ⊢
            simp only [heb] at hz2 ⊢
            have hI6 := hI.below hW1
            have hG6 : W5.grownBy W6 (some ib) := grown_trans hG (below_grown hW1) (fun g e => by cases e)
            have heb6 : eb < W6.heap.size := blk_lt hz2
            have hz6 := hW1.size
            clear hW1 hW6 hz q1 q2 q3 hI hG
            have hown6 := hI6.own t ht
            have hpl : (predsTo (es.take k) t).length ≤ 400 := by
              have h := List.length_filter_le (fun e : Ed => decide (e.t = (t : Int))) (es.take k)
              unfold predsTo
              rw [List.length_map]
              rw [List.length_take] at h
              omega
            obtain ⟨Av, cv, hvv⟩ := own_form hown6
            have hrow6 := hI6.row
            have hcv6 : W6.cell? ⟨ib, t, none⟩ = some (gV vs t) := by
              rw [cell_of_row _ _ _ _ _ _ hrow6]
              have : t < vs.length := by rw [hI6.len]; exact ht
              simp [gV, this]
            obtain ⟨g, hg⟩ : ∃ g, ownB W6 (gV vs t) = g := ⟨_, rfl⟩
            have hgB : W5.heap.size ≤ g := by
              rw [← hg]
              unfold ownB
              rcases own_blk hown6 with q | ⟨g', c', q, q2, _⟩
              · rw [q]; simp only; omega
              · rw [q]; exact q2
            have hgc : ∀ o, W6.heap[g]? = some o → ∃ c, o = .cells c 3 (0, 0) := fun o ho => by
              rw [← hg] at ho
              unfold ownB at ho
              rcases own_blk hown6 with q | ⟨g', c', q, _, q3⟩
              · rw [q] at ho; exact absurd (blk_lt ho) (by simp)
              · rw [q] at ho
                simp only at ho
                rw [q3] at ho; cases ho
                exact ⟨_, rfl⟩
            have hgo2 : ∀ g', (gV vs t).ownBlock = some g' → g' = g := fun g' e => by rw [← hg]; unfold ownB; rw [e]
            have hge : eb ≠ g := by
              intro e
              obtain ⟨c', q⟩ := hgc _ (by rw [← e]; exact hz2)
              cases q
            have hgi : ib ≠ g := by omega
            have ce0 : W6.cell? ⟨eb, 0, none⟩ = some (.int .i64 ef) := (cell_of_row _ _ _ _ _ _ hz2).trans rfl
            have ce2 : W6.cell? ⟨eb, 2, none⟩ = some (.int .i64 (t : Int)) := (cell_of_row _ _ _ _ _ _ hz2).trans rfl
            have hibl : ib < W6.heap.size := blk_lt hrow6
            clear hg
            rw [hvv] at hcv6
            have hvv' := Lib.hid hvv
            clear hvv
            change Code.wp _ _ _ (Act.mk _ _) _
            refine wp_region_tree_tail (S := fun W => ∃ p : Regrown3, W = Sort.grow (redrawn (W6.putObj g p.o) p.d) p.os) (.look [0, 1, 2, 3, 4, 5, 6, 7, 8, 9] (.one 10 (.one 11 .done))) (by kernel_rfl) (by kernel_rfl) (regrown3_of ⟨rfl, rfl, rfl, Nat.le_refl _, fun _ _ _ => rfl⟩) (fun d _ _ _ _ h => by cases d <;> exact h) ?_
            refine tree_look ?_
            dsimp only [pickL, nthO]
            repeat (first
              | go_big_quiet_skip
              | (go_big_quiet_want; first
                  | (go_big_quiet_op; go_big_quiet_on)
                  | ((first
                      | refine q_go ⟨_, default, rfl⟩ (fun K' hk => q_load1 _ _ rfl ⟨eb, 2, none⟩ rfl _ Try.underlying3 _ (fun W hW => regrown3_cell hW heb6 hge ce2) hk) ?_
                      | refine q_go ⟨_, default, rfl⟩ (fun K' hk => q_load1 _ _ rfl ⟨eb, 0, none⟩ rfl _ Try.underlying3 _ (fun W hW => regrown3_cell hW heb6 hge ce0) hk) ?_
                      | refine q_go ⟨_, default, rfl⟩ (fun K' hk => q_loadS _ _ rfl ⟨ib, t, none⟩ rfl _ Try.underlying22 _ (fun W hW => regrown3_cell hW hibl hgi hcv6) hk) ?_); go_big_quiet_op; go_big_quiet_on)))
            refine wpQuiet_nil ?_
            have hb7 : Below W6.heap.size W6 W6.drew := (Below.refl _ _).drew
            obtain ⟨V0, hV0⟩ : ∃ V0, W6.drew = V0 := ⟨_, rfl⟩
            change wpTree _ _ _ _ _ _ _ W6.drew
            rw [hV0] at hb7 ⊢
            clear hV0
            refine tree_one rfl ?_
            go_wp2
            have hlit := blk_new V0 (.cells #[.int .i64 ef] 3)
            have hstep : Below V0.heap.size V0 (V0.alloc (.cells #[.int .i64 ef] 3)) := (Below.refl _ _).alloc (Nat.le_refl _) _
            obtain ⟨lb, hlb⟩ : ∃ lb, V0.heap.size = lb := ⟨_, rfl⟩
            rw [hlb] at hlit
            simp only [hlb]
            generalize V0.alloc (.cells #[.int .i64 ef] 3) = W7 at *
            have hb7' := hb7.trans (hstep.mono hb7.size)
            clear hstep hb7
            have hS7 : W6.grownBy W7 (some g) := ⟨hb7'.os, hb7'.tape, hb7'.output, hb7'.size, fun k hk _ => hb7'.block k hk⟩
            refine ⟨regrown3_of hS7, ?_⟩
            have hI7 := hI6.below hb7'
            have hG7 : W5.grownBy W7 (some ib) := grown_trans hG6 (below_grown hb7') (fun g e => by cases e)
            have hown7 := hI7.own t ht
            rw [hvv'.out] at hown7
            refine tree_one rfl ?_
            go_wp2_with (refine wpList_app1 rfl _ _ rfl W5.heap.size _ rfl (predsTo (es.take k) t) (by exact hown7) lb 1 ef rfl hlit hG7.size (by omega) ?_; intro v' W8 hown8 hgr8 hblk8)
            rw [← hvv'.out] at hgr8 hblk8
            have hgr9 : W7.grownBy W8 (some g) := ⟨hgr8.os, hgr8.tape, hgr8.output, hgr8.size, fun j hj hne => hgr8.block j hj (fun q => hne (by rw [hgo2 j q.symm]))⟩
            have hS8 : W6.grownBy W8 (some g) := ⟨hgr9.os.trans hS7.os, hgr9.tape.trans hS7.tape, hgr9.output.trans hS7.output, Nat.le_trans hS7.size hgr9.size, fun j hj hne => (hgr9.block j (Nat.lt_of_lt_of_le hj hS7.size) hne).trans (hS7.block j hj hne)⟩
            refine ⟨regrown3_of hS8, ?_⟩
            refine tree_done ?_
            simp only [MT.deep, List.length_cons, List.length_nil, Nat.reduceAdd, List.drop_succ_cons, List.drop_zero]
            have hrow8 : W8.heap[ib]? = some (.cells vs.toArray 22 (0, 0)) := (hS8.block ib hibl (fun q => hgi (Option.some.inj q))).trans hrow6
            have hc8 : W8.cell? ⟨ib, t, none⟩ = some (.slice Av (predsTo (es.take k) t).length cv) := (World.cell?_of_block (hS8.block ib hibl (fun q => hgi (Option.some.inj q)))).trans hcv6
            have hf8 := free_of_row hrow8 t
            have hI9 := hI7.snoc hG7.size ht (e := ⟨ef, ea, t⟩) rfl hgr8 hown8 hblk8
            have hG9 : W5.grownBy (W8.setCell ⟨ib, t, none⟩ v') (some ib) := grown_trans (grown_trans hG7 hgr9 (fun g' e => by cases e; exact .inr hgB)) (⟨rfl, rfl, rfl, by simp, fun j hj hne => blk_far (p := ⟨ib, t, none⟩) (fun q => hne (by rw [q]))⟩ : World.grownBy W8 (W8.setCell ⟨ib, t, none⟩ v') (some ib)) (fun g' e => by cases e; exact .inl rfl)
            obtain ⟨A8, c8, hv8⟩ := own_form hown8
            obtain ⟨n8, hn8⟩ : ∃ n8, (predsTo (es.take k) t ++ [ef]).length = n8 := ⟨_, rfl⟩
            rw [show (predsTo (es.take k) (t : Int) ++ [(⟨ef, ea, t⟩ : Ed).f]).length = n8 from hn8] at hv8
            subst hv8
            clear hn8
            clear hI7 hG7 hS7 hS8 hgr8 hgr9 hown8 hown7 hlit hrow8 hI6 hG6 hz2 hown6 hrow6 hcv6 hgc hgo2
            go_wp2
            go_roundw
            case rel => exact ⟨k + 1, _, by omega, by go_num, hG9, by rw [htk'.out]; exact hI9⟩
            case measure => simp [intOf]; omega
          · obtain rfl : k = es.length := by omega
            have hd : decide ((es.length : Int) < (es.length : Int)) = false := by simp
            rw [List.take_length] at hI
            have hM9 : MadeAt w wr P A c bs rb off l bu bp (uOf l bs.length fun _ => none) (plF l bs.length l.length) := by
              have n1 := hM5.n1; have n2 := hM5.n2
              refine hM5.far (fun {k' o} hk' h => (hG.block k' (blk_lt h) (fun q => ?_)).trans h) ((Below.refl w.heap.size W5).grown hG (by have := hM5.bel.size; omega) (fun k e => by have := Option.some.inj e; omega))
              have := Option.some.inj q
              omega
            have hwb : bu < wr.heap.size := blk_lt hM9.ub
            clear hM5
            have hgp := graphP hc hord
            rw [hes'.out] at hgp
            have hst := start_none (P := prP es l) (m := l.length)
            have hMT : ∀ {T : PTree} {wq : World} {v : Value}, v = v → True := fun _ => trivial
            clear hMT
            go_wp2
            obtain ⟨wo, rfl⟩ : ∃ wo : World, wo = wr := ⟨_, rfl⟩
            change Code.wp _ _ _ (Act.mk _ _) _
            go_loopw [9] (fun v9 wq => ∃ (mv : Bool) (T : PTree), v9 = .bool mv ∧ wo.grownBy wq (some bu) ∧ MadeAt w wq P A c bs rb off l bu bp (uOf l bs.length T) (plF l bs.length l.length) ∧ Start (prP es l) l.length T ∧ (mv = false → ∀ j, 1 ≤ j → j < l.length → T j = overU T (prP es l j))) (fun v9 wq => 2 * weigh l.length (treeOf l (rdRow wq bu)) l.length + bOf v9)
            case atStart => exact ⟨true, _, rfl, ⟨rfl, rfl, rfl, Nat.le_refl _, fun _ _ _ => rfl⟩, hM9, hst, fun h => by cases h⟩
            case round =>
              clear hM9 hst
              obtain ⟨mv, T, rfl, hGo, hM, hS, hfix⟩ := hrel
              have htk := treeOk_of hc hord hS.wf hS.out
              have htr := treeOf_uOf hc hord hS.wf hS.out
              cases mv
              · have hfx := dom_fix hgp hS.wf hS.up (hfix rfl)
                have hf2 := Lib.hid hfx
                clear hfx hfix htr htk
                have ht2 := hM.tree
                go_wp2_with (first | (refine wpList_load_row rfl _ _ rfl _ rfl _ _ _ _ ht2 Try.underlying57 rfl (by kernel_rfl) ?_) | (refine wpList_store_row rfl _ _ _ rfl (w.heap.size + 1) #[.slice (some ⟨bu, 0, none⟩) bs.length bs.length, .slice (some ⟨bp, 0, none⟩) bs.length bs.length] rfl rfl _ _ ht2 (by kernel_rfl) rfl (by simp [Value.oneCell']) ?_))
                refine bodyPost_ret (results_cell_row rfl _ _ (w.heap.size + 1) _ _ _ _ rfl (blk_setRow ht2) Try.underlying57 rfl (by kernel_rfl)) rfl ?_
                have n1 := hM.n1
                have n2 := hM.n2
                refine ⟨bu, bp, l, T, rfl, (blk_setRow_far (by omega)).trans hM.ub, (blk_setRow_far (by omega)).trans hM.pb, by omega, by omega, hM.n3, below_setRow hM.bel (by omega) _, hord, hS.wf, hS.out, hf2.out.1, ?_⟩
                rw [hes'.out]
                exact hf2.out.2
              · clear hfix
                obtain ⟨hS2, hN2, hsame, hmove⟩ := pass_end hgp hS
                have hpw := pass_wf hgp hS (passN_pass (prP es l) l.length T)
                have hpo := passN_out (prP es l) l.length T
                have hpn := (passN_pass (prP es l) l.length T).2
                have hp0 := (passN_pass (prP es l) l.length T).1
                generalize passN (prP es l) l.length T = N at *
                have hmt : 2 * weigh l.length (treeOf l (rdRow wr bu)) l.length + bOf (.bool true) = 2 * weigh l.length T l.length + 1 := by rw [rdRow_eq hM.ub, htr]; rfl
                by_cases hm1 : l.length = 1
                · have hst1 : ∀ i, i < l.length → N i = T i := fun i hi => by
                    have : i = 0 := by omega
                    subst this
                    rw [hp0, hS.wf.root]
                  have hfx := (hsame hst1).2
                  have hfx' := Lib.hid hfx
                  have hmt' := Lib.hid hmt
                  have hub := hM.ub
                  have htr' := Lib.hid htr
                  clear hsame hmove hst1 hpw hpn hfx hmt htr
                  go_wp2
                  change Code.wp _ _ _ (Act.mk _ _) _
                  refine wp_loop_once ?_
                  change Code.wp _ _ _ (Act.mk _ _) _
                  go_wp2
                  exact ⟨⟨false, T, rfl, hGo, hM, hS, fun _ => hfx'.out⟩, by simp [bOf]⟩
                · have hm2 : 1 < l.length := by omega
                  go_wp2
                  have hmt' := Lib.hid hmt
                  have htr' := Lib.hid htr
                  clear hmt htr
                  have hmx1 : mixT 1 N T = T := by
                    funext i
                    by_cases hi : i = 0
                    · subst hi; rw [mix_lt (by omega), hp0, hS.wf.root]
                    · rw [mix_ge (by omega)]
                  have hM1 : MadeAt w wr P A c bs rb off l bu bp (uOf l bs.length (mixT (0 + 1) N T)) (plF l bs.length l.length) := by rw [hmx1]; exact hM
                  obtain ⟨w8, rfl⟩ : ∃ w8 : World, w8 = wr := ⟨_, rfl⟩
                  change Code.wp _ _ _ (Act.mk _ _) _
                  go_loopw [9, 75] (fun v9 i wq => ∃ (x : Nat) (mv2 : Bool), v9 = .bool mv2 ∧ i = .int .i64 x ∧ x + 1 ≤ l.length ∧ wo.grownBy wq (some bu) ∧ MadeAt w wq P A c bs rb off l bu bp (uOf l bs.length (mixT (x + 1) N T)) (plF l bs.length l.length) ∧ (mv2 = false → ∀ i, i < x + 1 → N i = T i) ∧ (mv2 = true → ∃ i, i < l.length ∧ N i ≠ T i)) (fun _ i _ => l.length - 1 - (intOf i).toNat)
                  case atStart => exact ⟨0, false, rfl, rfl, by omega, hGo, hM1, fun _ i hi => by
                    have : i = 0 := by omega
                    subst this
                    rw [hp0, hS.wf.root], fun h => by cases h⟩
                  case round =>
                    clear hM1 hmx1
                    obtain ⟨x, mv2, rfl, rfl, hx, hGx, hMx, hf1, hf2⟩ := hrel
                    by_cases hxl : x + 1 < l.length
                    · have hd : decide ((x : Int) < ((l.length - 1 : Nat) : Int)) = true := decide_eq_true (by omega)
                      have hxN : x < l.length - 1 := by omega
                      obtain ⟨_, _, eq, hbl, hcl, _⟩ := hMx.row.RI.at_ hxl
                      cases eq
                      rw [show off + (x + 1) = off + 1 + x by omega] at hcl
                      obtain ⟨b, eb, hb⟩ : ∃ b : Nat, gI l (x + 1) = (b : Int) ∧ b < bs.length := by
                        obtain ⟨p1, p2⟩ := ook _ (gI_mem hxl)
                        exact ⟨(gI l (x + 1)).toNat, by omega, by omega⟩
                      rw [eb] at hcl
                      have hps : predsTo es (b : Int) = predsTo es (gI l (x + 1)) := by rw [eb]
                      have eb' := Lib.hid eb
                      clear eb
                      have hIz : ∀ wz : World, wo.grownBy wz (some bu) → IntoAt wz W5.heap.size ib bs.length vs es := fun wz hz => hI.far (fun k' o hk' h => (hz.block k' (blk_lt h) (fun q => by
                        have := Option.some.inj q
                        omega)).trans h)
                      have hp64 : ∀ y ∈ predsTo es (b : Int), I64 y ∧ okB bs y := fun y hy => by
                        unfold predsTo at hy
                        obtain ⟨e, he, rfl⟩ := List.mem_map.1 hy
                        have he2 := (List.mem_filter.1 he).1
                        exact ⟨(heI e he2).1, (heo e he2).1⟩
                      have hpl : (predsTo es (b : Int)).length ≤ 400 := by
                        have h := List.length_filter_le (fun e : Ed => decide (e.t = (b : Int))) es
                        unfold predsTo
                        rw [List.length_map]
                        omega
                      have hrowz : ∀ wz : World, wo.grownBy wz (some bu) → wz.cell? ⟨ib, b, none⟩ = some (gV vs b) := fun wz hz => by
                        rw [cell_of_row _ _ _ _ _ _ (hIz wz hz).row]
                        have : b < vs.length := by rw [hI.len]; exact hb
                        simp [gV, this]
                      have hownz := fun wz hz => (hIz wz hz).own b hb
                      have hprp : prP es l (x + 1) = (predsTo es (b : Int)).filterMap (plN l) := by unfold prP; rw [hps]
                      clear hps
                      generalize predsTo es (b : Int) = ps at *
                      obtain ⟨A', c', e', _, hRIx⟩ := own_RI (hownz _ hGx) (fun y hy => (hp64 y hy).1) (by omega)
                      have hRIz : ∀ wz : World, wo.grownBy wz (some bu) → RI wz A' ps := fun wz hz => by
                        obtain ⟨A2, c2, e2, _, h⟩ := own_RI (hownz wz hz) (fun y hy => (hp64 y hy).1) (by omega)
                        rw [e'] at e2; cases e2; exact h
                      have hcb := hrowz _ hGx
                      rw [e'] at hcb
                      have hprp' := Lib.hid hprp
                      obtain ⟨wfm, upm, dnm, _⟩ := hpw (x + 1) (by omega)
                      have outm : ∀ i, l.length ≤ i → mixT (x + 1) N T i = none := fun i hi => by rw [mix_ge (by omega), hS.out i hi]
                      have e2' := Lib.hid e'
                      clear e' hprp hrowz hownz
                      have htm := treeOk_of hc hord wfm outm
                      have hul := uOf_i64 hc hord wfm outm
                      have hpl2 := plF_i64 l bs.length l.length (by omega)
                      have hulen := uOf_len l bs.length (mixT (x + 1) N T)
                      have hplen := plF_len l bs.length l.length
                      have hMx0 := hMx
                      generalize hTm : mixT (x + 1) N T = Tm at *
                      have hTm' := Lib.hid hTm
                      clear hTm
                      go_wp2
                      obtain ⟨w10, rfl⟩ : ∃ w10 : World, w10 = wr := ⟨_, rfl⟩
                      change Code.wp _ _ _ (Act.mk _ _) _
                      go_loopw [12, 84] (fun v12 i wz => ∃ y : Nat, y ≤ ps.length ∧ i = .int .i64 y ∧ v12 = .int .i64 (accI l (overU Tm ((ps.take y).filterMap (plN l)))) ∧ wo.grownBy wz (some bu) ∧ MadeAt w wz P A c bs rb off l bu bp (uOf l bs.length Tm) (plF l bs.length l.length)) (fun _ i _ => ps.length - (intOf i).toNat)
                      case atStart => exact ⟨0, Nat.zero_le _, rfl, rfl, hGx, hMx0⟩
                      case round =>
                        clear hMx hMx0 hGx
                        obtain ⟨y, hy, rfl, rfl, hGz, hMz⟩ := hrel
                        by_cases hyl : y < ps.length
                        · have hd2 : decide ((y : Int) < (ps.length : Int)) = true := decide_eq_true (by omega)
                          obtain ⟨bq, oq, hAq, hbq, hcq, _⟩ := (hRIz _ hGz).at_ hyl
                          subst hAq
                          obtain ⟨ha1, ha2, ha3⟩ := hp64 _ (gI_mem hyl)
                          have hstp := pre_snoc (l := l) (T := Tm) hyl
                          have hok := overU_ok wfm ((ps.take y).filterMap (plN l))
                          generalize overU Tm ((ps.take y).filterMap (plN l)) = acc at *
                          generalize hga : gI ps y = av at *
                          obtain ⟨ka, rfl⟩ : ∃ ka : Nat, av = (ka : Int) := ⟨av.toNat, by omega⟩
                          have hkan : ka < bs.length := by omega
                          have c0 := hMz.tc0
                          have hcu := row_cell hMz.ub (i := ka) (by rw [hulen]; exact hkan)
                          have hstp' := Lib.hid hstp
                          clear hstp hga ha2 ha3
                          by_cases hsk : ka ≠ 0 ∧ gI (uOf l bs.length Tm) ka = -1
                          · obtain ⟨hk0, hk1⟩ := hsk
                            rw [hk1] at hcu
                            have hne : ((ka : Int) != 0) = true := by simp; omega
                            have hst2 : overU Tm ((ps.take (y + 1)).filterMap (plN l)) = acc := by
                              rw [hstp'.out]
                              cases hq : plN l (ka : Int) with
                              | none => rfl
                              | some p =>
                                obtain ⟨p1, p2⟩ := plN_some hq
                                have h3 := (htm.upk p1 p2).1
                                rw [hk1] at h3
                                have h4 : doneB Tm p = false := by
                                  cases hq2 : doneB Tm p with
                                  | false => rfl
                                  | true =>
                                    rcases doneB_iff.1 hq2 with rfl | ⟨j, hj⟩
                                    · rw [o0] at p2; omega
                                    · unfold upI at h3
                                      rw [hj] at h3
                                      have := (ook _ (gI_mem (show j < l.length by have := wfm.lt _ _ hj; omega))).1
                                      simp only at h3
                                      omega
                                simp only [stepU, h4, Bool.false_eq_true, if_false]
                            have hst3 := Lib.hid hst2
                            clear hk1 hst2
                            go_wp2
                            go_roundw
                            case rel => exact ⟨y + 1, by omega, by go_num, by rw [hst3.out], hGz, hMz⟩
                            case measure => simp [intOf]; omega
                          · have htake : ∃ p, plN l (ka : Int) = some p ∧ p < l.length ∧ gI l p = (ka : Int) ∧ Dn Tm p := by
                              by_cases k0 : ka = 0
                              · subst k0
                                refine ⟨0, ?_, opos, o0, .inl rfl⟩
                                have := plN_at on opos
                                rw [o0] at this
                                exact this
                              · have hu1 : gI (uOf l bs.length Tm) ka ≠ -1 := fun q => hsk ⟨k0, q⟩
                                have hkl : (ka : Int) ∈ l := by
                                  apply Decidable.byContradiction
                                  intro q
                                  exact hu1 (htm.out ka hkan q)
                                obtain ⟨p, p1, p2, _⟩ := mem_place hkl
                                refine ⟨p, by rw [← p2]; exact plN_at on p1, p1, p2, ?_⟩
                                rw [(htm.upk p1 p2).1] at hu1
                                cases hq : Tm p with
                                | none => exact absurd (by unfold upI; rw [hq]) hu1
                                | some j => exact .inr ⟨j, hq⟩
                            obtain ⟨p, hp1, hp2, hp3, hp4⟩ := htake
                            have hst2 : overU Tm ((ps.take (y + 1)).filterMap (plN l)) = nextU Tm acc p := by
                              rw [hstp'.out, hp1]
                              exact stepU_done hp4
                            have hst3 := Lib.hid hst2
                            have hp3' := Lib.hid hp3
                            have hU0 : ka ≠ 0 → decide (gI (uOf l bs.length Tm) ka < 0) = false := fun k0 => by
                              rw [(htm.upk hp2 hp3).1]
                              rcases hp4 with rfl | ⟨j, hj⟩
                              · rw [o0] at hp3; omega
                              · have hjl : j < l.length := by have := wfm.lt _ _ hj; omega
                                have := (ook _ (gI_mem hjl)).1
                                unfold upI
                                rw [hj]
                                exact decide_eq_false (by simp only; omega)
                            have hmeet : ∀ u, acc = some u → ∀ wz : World, MadeAt w wz P A c bs rb off l bu bp (uOf l bs.length Tm) (plF l bs.length l.length) → Calls Try.prog 23 #[.agg #[.slice (some ⟨bu, 0, none⟩) bs.length bs.length, .slice (some ⟨bp, 0, none⟩) bs.length bs.length], .int .i64 (gI l u), .int .i64 (ka : Int)] wz (Fresh wz (.int .i64 (gI l (meetF Tm (u + p) u p)))) := fun u hu wz hz => by
                              have hd := hok.dn u hu
                              have h := meet_any l bs.length Tm _ _ htm (some ⟨bu, 0, none⟩) (some ⟨bp, 0, none⟩) bs.length bs.length wz (RI_lit hz.ub hul (by omega)) (RI_lit hz.pb hpl2 (by omega)) u p (dn_lt opos outm hd) hp2 hd hp4
                              rw [hulen, hplen, hp3] at h
                              exact h
                            have haccu : ∀ u, acc = some u → decide (gI l u < 0) = false := fun u hu => decide_eq_false (by
                              have := (ook _ (gI_mem (dn_lt opos outm (hok.dn u hu)))).1
                              omega)
                            clear hst2 hp1 hp3 hstp' hok
                            by_cases k0 : ka = 0
                            · subst k0
                              have hne : (((0 : Nat) : Int) != 0) = false := by decide
                              cases acc with
                              | none =>
                                clear hmeet haccu
                                simp only [accI]
                                go_wp2
                                go_roundw
                                case rel => exact ⟨y + 1, by omega, by go_num, by rw [hst3.out]; show Value.int .i64 (0 : Int) = .int .i64 (gI l p); rw [hp3'.out]; rfl, hGz, hMz⟩
                                case measure => simp [intOf]; omega
                              | some u =>
                                have hq := hmeet u rfl wr hMz
                                have hq2 := haccu u rfl
                                clear hmeet haccu
                                simp only [accI]
                                have ctr := hMz.tc1
                                go_wp2_with fail
                                refine hq.mono ?_
                                rintro e W11 ⟨rfl, hb11⟩
                                have hM11 := hMz.below hb11
                                have hG11 := grown_trans hGz (below_grown hb11) (fun g e => by cases e)
                                clear hq hb11 hGz hMz ctr
                                go_wp2
                                go_roundw
                                case rel => exact ⟨y + 1, by omega, by go_num, by rw [hst3.out]; rfl, hG11, hM11⟩
                                case measure => simp [intOf]; omega
                            · have hne : ((ka : Int) != 0) = true := by simp; omega
                              have hU1 := hU0 k0
                              clear hU0
                              generalize gI (uOf l bs.length Tm) ka = ux at *
                              cases acc with
                              | none =>
                                clear hmeet haccu
                                simp only [accI]
                                go_wp2
                                go_roundw
                                case rel => exact ⟨y + 1, by omega, by go_num, by rw [hst3.out]; show Value.int .i64 (ka : Int) = .int .i64 (gI l p); rw [hp3'.out], hGz, hMz⟩
                                case measure => simp [intOf]; omega
                              | some u =>
                                have hq := hmeet u rfl wr hMz
                                have hq2 := haccu u rfl
                                clear hmeet haccu
                                simp only [accI]
                                have ctr := hMz.tc1
                                go_wp2_with fail
                                refine hq.mono ?_
                                rintro e W11 ⟨rfl, hb11⟩
                                have hM11 := hMz.below hb11
                                have hG11 := grown_trans hGz (below_grown hb11) (fun g e => by cases e)
                                clear hq hb11 hGz hMz ctr
                                go_wp2
                                go_roundw
                                case rel => exact ⟨y + 1, by omega, by go_num, by rw [hst3.out]; rfl, hG11, hM11⟩
                                case measure => simp [intOf]; omega
                        · obtain rfl : y = ps.length := by omega
                          have hd2 : decide ((ps.length : Int) < (ps.length : Int)) = false := by simp
                          have hacc : overU Tm ((ps.take ps.length).filterMap (plN l)) = N (x + 1) := by
                            rw [List.take_length, ← hprp'.out, hpn (x + 1) (by omega) hxl, hTm'.out]
                          rw [hacc]
                          have hTx : Tm (x + 1) = T (x + 1) := by rw [← hTm'.out, mix_ge (Nat.le_refl _)]
                          have upacc : ∀ (T' : PTree) (i : Nat), upI l T' i = accI l (T' i) := fun T' i => by
                            unfold upI accI
                            cases T' i <;> rfl
                          have hUb : gI (uOf l bs.length Tm) b = accI l (T (x + 1)) := by
                            rw [(htm.upk hxl eb'.out).1, ← hTx]
                            exact upacc Tm (x + 1)
                          have c0 := hMz.tc0
                          have cu := row_cell hMz.ub (i := b) (by rw [hulen]; exact hb)
                          have fu := free_of_row hMz.ub b
                          rw [hUb] at cu
                          have hTl : ∀ k, T (x + 1) = some k → k < l.length := fun k hk => by have := hS.wf.lt _ _ hk; omega
                          have hij := accI_inj on (fun z hz => (ook z hz).1) (hN2 (x + 1)) hTl
                          have hset : ∀ z : Int, z = upI l (mixT (x + 1 + 1) N T) (x + 1) → (uOf l bs.length Tm).set b z = uOf l bs.length (mixT (x + 1 + 1) N T) := fun z hz => by
                            rw [hz]
                            refine (uOf_set on hxl eb'.out Tm (mixT (x + 1 + 1) N T) (fun i hi => ?_)).symm
                            rw [mix_succ, ← hTm'.out]
                            simp only
                            rw [if_neg hi]
                          have hupN : accI l (N (x + 1)) = upI l (mixT (x + 1 + 1) N T) (x + 1) := by
                            rw [upacc, mix_lt (by omega)]
                          have hsetU := hMz.setU b (accI l (N (x + 1)))
                          rw [hset _ hupN] at hsetU
                          have hGs : wo.grownBy (wr.setCell ⟨bu, b, none⟩ (.int .i64 (accI l (N (x + 1))))) (some bu) := grown_trans hGz (⟨rfl, rfl, rfl, by simp, fun j hj hne => blk_far (p := ⟨bu, b, none⟩) (fun q => hne (by rw [q]))⟩ : World.grownBy wr (wr.setCell ⟨bu, b, none⟩ (.int .i64 (accI l (N (x + 1))))) (some bu)) (fun g' e => by cases e; exact .inl rfl)
                          by_cases hEq : N (x + 1) = T (x + 1)
                          · have hne : (accI l (N (x + 1)) != accI l (T (x + 1))) = false := by rw [hEq]; simp
                            have hsame2 : mixT (x + 1 + 1) N T = Tm := by
                              rw [mix_succ, ← hTm'.out]
                              funext i
                              by_cases hi : i = x + 1
                              · subst hi; rw [if_pos rfl, hEq, mix_ge (Nat.le_refl _)]
                              · rw [if_neg hi]
                            have hM2 : MadeAt w wr P A c bs rb off l bu bp (uOf l bs.length (mixT (x + 1 + 1) N T)) (plF l bs.length l.length) := by rw [hsame2]; exact hMz
                            have hEq' := Lib.hid hEq
                            clear hsetU hGs hset hupN hij hUb hTx hacc hsame2 hEq
                            generalize accI l (N (x + 1)) = un at *
                            generalize accI l (T (x + 1)) = ut at *
                            go_wp2
                            go_roundw
                            case rel => exact ⟨x + 1, mv2, rfl, by go_num, by omega, hGz, hM2, fun h i hi => by
                              by_cases q : i = x + 1
                              · rw [q]; exact hEq'.out
                              · exact hf1 h i (by omega), hf2⟩
                            case measure => simp [intOf]; omega
                          · have hne : (accI l (N (x + 1)) != accI l (T (x + 1))) = true := by
                              simp only [bne_iff_ne, ne_eq]
                              exact fun q => hEq (hij.1 q)
                            have hEq' := Lib.hid hEq
                            clear hset hupN hij hUb hTx hacc hEq
                            generalize accI l (N (x + 1)) = un at *
                            generalize accI l (T (x + 1)) = ut at *
                            go_wp2
                            go_roundw
                            case rel => exact ⟨x + 1, true, rfl, by go_num, by omega, hGs, hsetU, fun h => by (cases h), fun _ => ⟨x + 1, hxl, hEq'.out⟩⟩
                            case measure => simp [intOf]; omega
                    · obtain hxe : x + 1 = l.length := by omega
                      have hd : decide ((x : Int) < ((l.length - 1 : Nat) : Int)) = false := decide_eq_false (by omega)
                      have hxN : ¬ (x < l.length - 1) := by omega
                      have hmall : mixT (x + 1) N T = N := by rw [hxe]; exact mix_all hS hpo
                      rw [hmall] at hMx
                      have hfx : mv2 = false → ∀ j, 1 ≤ j → j < l.length → N j = overU N (prP es l j) := fun h => by
                        obtain ⟨e1, e2⟩ := hsame (fun i hi => hf1 h i (by omega))
                        rw [e1]; exact e2
                      have hme : 2 * weigh l.length (treeOf l (rdRow wr bu)) l.length + bOf (.bool mv2) < 2 * weigh l.length (treeOf l (rdRow w8 bu)) l.length + bOf (.bool true) := by
                        rw [hmt'.out, rdRow_eq hMx.ub, treeOf_uOf hc hord hS2.wf hS2.out]
                        cases mv2 with
                        | false =>
                          rw [(hsame (fun i hi => hf1 rfl i (by omega))).1]
                          simp [bOf]
                        | true =>
                          have := hmove (hf2 rfl)
                          simp only [bOf]; omega
                      have hfx' := Lib.hid hfx
                      have hme' := Lib.hid hme
                      clear hfx hme hmall hsame hmove hf1 hf2 hpw hpn
                      go_wp2
                      go_roundw
                      case rel => exact ⟨mv2, N, rfl, hGx, hMx, hS2, hfx'.out⟩
                      case measure => exact hme'.out

end Go.Proofs.Ytjichaeegheacaa
