
/-
  A function's blocks as a graph: its edges, where each goes, what is reached. Plain lists: no walk here.
-/
import Derived.Test.YtjichaeegheacaaClosed
import Derived.Test.YtjichaeegheacaaDfs
namespace Go.Proofs.Ytjichaeegheacaa
open Go Go.RowKit

/-- Where a block goes. -/
def suB (bs : List Blk) (x : Int) : List Int := if 0 ≤ x ∧ x < bs.length then toL (gB bs x.toNat).t else []
def okB (bs : List Blk) (x : Int) : Prop := 0 ≤ x ∧ x < bs.length
theorem suB_of {bs : List Blk} {x : Int} (h : okB bs x) : suB bs x = toL (gB bs x.toNat).t := if_pos h
def OkBs (bs : List Blk) : Prop := ∀ i, i < bs.length → (gB bs i).t.ok

theorem toL_i64 {t : Tm} (h : t.ok) : ∀ x ∈ toL t, I64 x := by
  obtain ⟨h1, h2, h3, h4⟩ := h
  intro x hx
  unfold toL at hx
  split at hx
  · split at hx
    · simp at hx; subst hx; exact h3
    · split at hx
      · simp at hx; rcases hx with rfl | rfl <;> assumption
      · cases hx
  · cases hx

theorem mem_edgesTo (bs : List Blk) (e : Ed) : ∀ n, e ∈ edgesTo bs n ↔ ∃ k m : Nat, k < n ∧ m < (toL (gB bs k).t).length ∧ e = ⟨k, m, gI (toL (gB bs k).t) m⟩
  | 0 => by simp [edgesTo]
  | n + 1 => by
    rw [edgesTo, List.mem_append, mem_edgesTo bs e n]
    constructor
    · rintro (⟨k, m, h1, h2, h3⟩ | h)
      · exact ⟨k, m, by omega, h2, h3⟩
      · simp only [armE, List.mem_map, List.mem_range] at h
        obtain ⟨m, h1, h2⟩ := h
        exact ⟨n, m, by omega, h1, h2.symm⟩
    · rintro ⟨k, m, h1, h2, h3⟩
      by_cases hk : k = n
      · subst hk
        exact .inr (by simp only [armE, List.mem_map, List.mem_range]; exact ⟨m, h2, h3.symm⟩)
      · exact .inl ⟨k, m, by omega, h2, h3⟩
theorem mem_edges (bs : List Blk) (e : Ed) : e ∈ edgesOf bs ↔ ∃ k m : Nat, k < bs.length ∧ m < (toL (gB bs k).t).length ∧ e = ⟨k, m, gI (toL (gB bs k).t) m⟩ := mem_edgesTo bs e bs.length

theorem inN_iff {t : Int} {n : Nat} (ht : I64 t) (hn : n ≤ 200) : inN t n = true ↔ 0 ≤ t ∧ t < n := by
  obtain ⟨h1, h2⟩ := ht
  unfold inN
  have : IntKind.u64.wrap t = t % 18446744073709551616 := by simp [IntKind.wrap, IntKind.bits, IntKind.signed]
  rw [this]; simp; omega

/-- Of a function that is closed. -/
structure Cl (bs : List Blk) : Prop where
  pos : 0 < bs.length
  le : bs.length ≤ 200
  go : ∀ b, okB bs b → ∀ x ∈ suB bs b, okB bs x
theorem Cl.inR {bs : List Blk} (h : Cl bs) (b : Int) (hb : okB bs b) : inR b = true := by
  have := h.le
  obtain ⟨h1, h2⟩ := hb
  rw [inR_iff]; omega

theorem closed_cl {bs : List Blk} (ho : OkBs bs) (h : closedB bs = true) : Cl bs := by
  unfold closedB allN at h
  rw [Bool.and_eq_true, Bool.and_eq_true, decide_eq_true_iff, decide_eq_true_iff, List.all_eq_true] at h
  obtain ⟨h1, h2, h3⟩ := h
  refine ⟨h2, h3, fun b hb x hx => ?_⟩
  rw [suB_of hb] at hx
  obtain ⟨m, hm, rfl⟩ := List.mem_iff_getElem.1 hx
  obtain ⟨hb1, hb2⟩ := hb
  have hk : b.toNat < bs.length := by omega
  have he := h1 ⟨b.toNat, m, gI (toL (gB bs b.toNat).t) m⟩ ((mem_edges bs _).2 ⟨b.toNat, m, hk, hm, rfl⟩)
  simp only at he
  rw [inN_iff (toL_i64 (ho _ hk) _ (gI_mem hm)) h3, gI_eq hm] at he
  exact he

theorem edge_su {bs : List Blk} {e : Ed} (h : e ∈ edgesOf bs) : okB bs e.f ∧ e.t ∈ suB bs e.f := by
  obtain ⟨k, m, h1, h2, rfl⟩ := (mem_edges bs e).1 h
  have hk : okB bs (k : Int) := ⟨by omega, by omega⟩
  refine ⟨hk, ?_⟩
  rw [suB_of hk]
  exact gI_mem h2
theorem su_edge {bs : List Blk} {x y : Int} (h : y ∈ suB bs x) : ∃ e ∈ edgesOf bs, e.f = x ∧ e.t = y := by
  unfold suB at h
  split at h
  · rename_i hx
    obtain ⟨m, hm, rfl⟩ := List.mem_iff_getElem.1 h
    obtain ⟨h1, h2⟩ := hx
    refine ⟨⟨x.toNat, m, gI (toL (gB bs x.toNat).t) m⟩, (mem_edges bs _).2 ⟨x.toNat, m, by omega, hm, rfl⟩, ?_, ?_⟩
    · simp only; omega
    · simp only; rw [gI_eq hm]
  · cases h
theorem edge_i64 {bs : List Blk} (ho : OkBs bs) (hl : bs.length ≤ 35184372088832) {e : Ed} (h : e ∈ edgesOf bs) : I64 e.f ∧ I64 e.a ∧ I64 e.t := by
  obtain ⟨k, m, h1, h2, rfl⟩ := (mem_edges bs e).1 h
  have := toL_len (gB bs k).t
  exact ⟨⟨by simp only; omega, by simp only; omega⟩, ⟨by simp only; omega, by simp only; omega⟩, toL_i64 (ho k h1) _ (gI_mem h2)⟩

/-- Where a number stands; -1: nowhere. -/
def placeI (l : List Int) (b : Int) : Int := if l.contains b then (l.idxOf b : Int) else -1
theorem placeI_none {l : List Int} {b : Int} (h : l.contains b = false) : placeI l b = -1 := by unfold placeI; rw [h]; rfl
theorem placeI_cons (x : Int) (l : List Int) (b : Int) : placeI (x :: l) b = if x = b then 0 else if placeI l b < 0 then -1 else placeI l b + 1 := by
  unfold placeI
  by_cases h : x = b
  · subst h; simp
  · rw [if_neg h, List.contains_cons, show (b == x) = false by simpa using fun e => h e.symm, Bool.false_or]
    cases hc : l.contains b
    · simp
    · have hx : (x == b) = false := by simpa using h
      simp only [if_true, List.idxOf_cons, hx, cond_false]
      rw [if_neg (by omega)]
      omega
theorem placeI_at {l : List Int} {b : Int} : ∀ {k : Nat}, k < l.length → gI l k = b → (l.take k).contains b = false → placeI l b = k := by
  induction l with
  | nil => intro k hk; cases hk
  | cons x l ih =>
    intro k hk hb hn
    rw [placeI_cons]
    cases k with
    | zero =>
      have : x = b := by simpa [gI] using hb
      rw [if_pos this]; rfl
    | succ k =>
      rw [List.take_succ_cons, List.contains_cons, Bool.or_eq_false_iff] at hn
      have hne : ¬ x = b := by
        intro e; subst e
        have := hn.1
        simp at this
      rw [if_neg hne]
      have := ih (k := k) (by simpa using hk) (by simpa [gI] using hb) hn.2
      rw [this, if_neg (by omega)]
      omega
theorem placeI_nonneg {l : List Int} {b : Int} : 0 ≤ placeI l b ↔ b ∈ l := by
  unfold placeI
  cases hc : l.contains b
  · simp only [Bool.false_eq_true, if_false]
    constructor
    · intro h; omega
    · intro h
      rw [← List.contains_iff_mem, hc] at h; cases h
  · simp only [if_true]
    exact ⟨fun _ => List.contains_iff_mem.1 hc, fun _ => by omega⟩
theorem placeI_lo (l : List Int) (b : Int) : -1 ≤ placeI l b ∧ placeI l b < l.length + 1 := by
  unfold placeI
  split
  · rename_i h
    have := List.idxOf_lt_length_of_mem (List.contains_iff_mem.1 h)
    omega
  · omega

theorem good_place {su : Int → List Int} {l : List Int} : Good su l → l.Nodup → ∀ {u v : Int}, u ∈ l → v ∈ su u → placeI l v ≤ placeI l u → 0 ≤ placeI l v → Way su v u := by
  induction l with
  | nil => intro _ _ u v hu; cases hu
  | cons x l ih =>
    intro hg hn u v hu hv hp h0
    obtain ⟨hx, hgl⟩ := hg
    rw [List.nodup_cons] at hn
    rw [placeI_cons] at hp h0
    rw [placeI_cons] at hp
    by_cases hxu : x = u
    · subst hxu
      rw [if_pos rfl] at hp
      rcases hx v hv with h | h
      · have hne : ¬ x = v := by rintro rfl; exact hn.1 h
        rw [if_neg hne] at hp h0
        have := placeI_nonneg.2 h
        rw [if_neg (by omega)] at hp
        omega
      · exact h
    · have hul : u ∈ l := by
        rcases List.mem_cons.1 hu with e | h
        · exact absurd e.symm hxu
        · exact h
      have hpu := placeI_nonneg.2 hul
      by_cases hxv : x = v
      · subst hxv
        by_cases hxl : x ∈ l
        · exact absurd hxl hn.1
        · -- the head goes back to u, or stands ahead of it: it reaches u, for else u would stand behind an edge that does not go back
          exact good_back hgl hul hv hxl
      · rw [if_neg hxu, if_neg hxv] at hp
        rw [if_neg hxv] at h0
        rw [if_neg (show ¬ placeI l u < 0 by omega)] at hp
        by_cases hvn : placeI l v < 0
        · rw [if_pos hvn] at h0; omega
        · rw [if_neg hvn] at hp
          exact ih hgl hn.2 hul hv (by omega) (by omega)
where
  good_back {su : Int → List Int} {l : List Int} : Good su l → ∀ {u v : Int}, u ∈ l → v ∈ su u → v ∉ l → Way su v u := by
    induction l with
    | nil => intro _ u v hu; cases hu
    | cons x l ih =>
      intro hg u v hu hv hn
      obtain ⟨hx, hgl⟩ := hg
      rcases List.mem_cons.1 hu with rfl | hu
      · rcases hx v hv with h | h
        · exact absurd (List.mem_cons_of_mem _ h) hn
        · exact h
      · exact ih hgl hu hv (fun h => hn (List.mem_cons_of_mem _ h))

theorem upTo_nodup (N m : Nat) : (upTo N m).Nodup := by
  unfold upTo
  refine List.Pairwise.map _ ?_ (List.Pairwise.filter _ List.nodup_range)
  intro a b hab e
  exact hab (Int.ofNat.inj e)

/-- What is reached, as a set. -/
structure RSet (bs : List Blk) (frm nt : List Int) (R : Nat) : Prop where
  sm : Sm R
  has : ∀ j : Nat, R.testBit j = true ↔ Rt (suB bs) bs.length frm nt (j : Int)
theorem RSet.mem {bs : List Blk} {frm nt : List Int} {R : Nat} (h : RSet bs frm nt R) (hc : Cl bs) (x : Int) : x ∈ upTo R 1024 ↔ Rt (suB bs) bs.length frm nt x := by
  rw [mem_upTo]
  constructor
  · rintro ⟨j, _, h2, rfl⟩
    exact (h.has j).1 h2
  · intro hx
    have h0 : okB bs x := by
      induction hx with
      | base _ _ h0 h1 => exact ⟨h0, h1⟩
      | step _ hy _ ih => exact hc.go _ ih _ hy
    have hl := hc.le
    obtain ⟨h1, h2⟩ := h0
    refine ⟨x.toNat, by omega, ?_, by omega⟩
    rw [h.has]
    rw [show ((x.toNat : Nat) : Int) = x by omega]
    exact hx

/-- The order that is told. -/
def OrderIs (bs : List Blk) (l : List Int) : Prop := ∃ s, Thr (suB bs) [0] ⟨0, []⟩ s ∧ s.L = l

theorem order_law {bs : List Blk} (hc : Cl bs) {l : List Int} (h : OrderIs bs l) :
    (∃ Y, l = 0 :: Y) ∧ (∀ R, RSet bs [0] [] R → (upTo R 1024).length = l.length ∧ ∀ x ∈ upTo R 1024, x ∈ l) ∧
      ∀ e ∈ edgesOf bs, e.f ∈ l → e.t ∈ l ∧ (placeI l e.t ≤ placeI l e.f → ∀ R, RSet bs [e.t] [] R → e.f ∈ upTo R 1024) := by
  obtain ⟨s, hs, rfl⟩ := h
  have h0 : okB bs 0 := ⟨by omega, by have := hc.pos; omega⟩
  obtain ⟨a1, a2, a3, a4, a5⟩ := Thr.whole hc.go hc.inR h0 hs
  refine ⟨a1, fun R hR => ?_, fun e he hf => ?_⟩
  · have hm : ∀ x, x ∈ upTo R 1024 ↔ x ∈ s.L := fun x => by
      rw [hR.mem hc, a3, Rt.way h0.1 h0.2]
    have hp := (List.perm_ext_iff_of_nodup (upTo_nodup R 1024) a2).2 hm
    exact ⟨hp.length_eq, fun x hx => (hm x).1 hx⟩
  · obtain ⟨h1, h2⟩ := edge_su he
    have ht : e.t ∈ s.L := (a3 _).2 (((a3 _).1 hf).step h2)
    refine ⟨ht, fun hp R hR => ?_⟩
    have hw := good_place a4 a2 hf h2 hp (placeI_nonneg.2 ht)
    obtain ⟨t0, t1⟩ := a5 _ ht
    rw [hR.mem hc, Rt.way t0 t1]
    exact hw

/- Counting edges. -/
def gE (es : List Ed) (i : Nat) : Ed := es[i]?.getD ⟨0, 0, 0⟩
theorem gE_eq {es : List Ed} {i : Nat} (h : i < es.length) : gE es i = es[i] := by simp [gE, h]
theorem gE_mem {es : List Ed} {i : Nat} (h : i < es.length) : gE es i ∈ es := by rw [gE_eq h]; exact List.getElem_mem h
/-- How many edges have their value at b, of the b's ahead of n. -/
def sumE (g : Ed → Int) (es : List Ed) : Nat → Nat
  | 0 => 0
  | n + 1 => sumE g es n + (es.filter fun e => decide (g e = (n : Int))).length
theorem sumE_eq (g : Ed → Int) (es : List Ed) : ∀ n : Nat, sumE g es n = (es.filter fun e => decide (0 ≤ g e ∧ g e < n)).length
  | 0 => by
    have : (es.filter fun e => decide (0 ≤ g e ∧ g e < ((0 : Nat) : Int))) = [] := by
      rw [List.filter_eq_nil_iff]; intro e _; simp
    rw [this]; rfl
  | n + 1 => by
    rw [sumE, sumE_eq g es n, ← List.countP_eq_length_filter, ← List.countP_eq_length_filter, ← List.countP_eq_length_filter]
    induction es with
    | nil => rfl
    | cons e es ih =>
      simp only [List.countP_cons, decide_eq_true_iff]
      have hc : ((n + 1 : Nat) : Int) = (n : Int) + 1 := by omega
      by_cases h1 : 0 ≤ g e ∧ g e < (n : Int)
      · have h2 : ¬ g e = (n : Int) := by omega
        have h3 : 0 ≤ g e ∧ g e < ((n + 1 : Nat) : Int) := by omega
        rw [if_pos h1, if_neg h2, if_pos h3]; omega
      · by_cases h2 : g e = (n : Int)
        · have h3 : 0 ≤ g e ∧ g e < ((n + 1 : Nat) : Int) := by omega
          rw [if_neg h1, if_pos h2, if_pos h3]; omega
        · have h3 : ¬ (0 ≤ g e ∧ g e < ((n + 1 : Nat) : Int)) := by omega
          rw [if_neg h1, if_neg h2, if_neg h3]; omega
theorem sumE_all (g : Ed → Int) {es : List Ed} {n : Nat} (h : ∀ e ∈ es, 0 ≤ g e ∧ g e < n) : sumE g es n = es.length := by
  rw [sumE_eq]
  congr 1
  rw [List.filter_eq_self]
  intro e he
  exact decide_eq_true (h e he)

/-- Those that are so among the first, and the next of them. -/
theorem filter_at {p : Ed → Bool} {es : List Ed} : ∀ {i : Nat}, i < es.length → p (gE es i) = true → ((es.take i).filter p).length < (es.filter p).length ∧ gE (es.filter p) ((es.take i).filter p).length = gE es i := by
  induction es with
  | nil => intro i hi; cases hi
  | cons e es ih =>
    intro i hi hp
    cases i with
    | zero =>
      have : p e = true := by simpa [gE] using hp
      simp [gE, this]
    | succ i =>
      have := ih (i := i) (by simpa using hi) (by simpa [gE] using hp)
      have hg : gE (e :: es) (i + 1) = gE es i := by simp [gE]
      rw [List.take_succ_cons, hg]
      cases he : p e
      · simp only [List.filter_cons, he, Bool.false_eq_true, if_false]; exact this
      · simp only [List.filter_cons, he, if_true, List.length_cons]
        exact ⟨by omega, by simpa [gE] using this.2⟩
theorem filter_take_succ {p : Ed → Bool} {es : List Ed} {i : Nat} (hi : i < es.length) : (es.take (i + 1)).filter p = (es.take i).filter p ++ if p (gE es i) then [gE es i] else [] := by
  rw [List.take_succ_eq_append_getElem hi, List.filter_append, gE_eq hi]
  cases h : p es[i] <;> simp [h]

/-- The edges stand in order of blocks and arms. -/
def edLt (a b : Ed) : Prop := a.f < b.f ∨ a.f = b.f ∧ a.a < b.a
theorem edges_lt (bs : List Blk) : ∀ n, (edgesTo bs n).Pairwise edLt
  | 0 => List.Pairwise.nil
  | n + 1 => by
    rw [edgesTo, List.pairwise_append]
    refine ⟨edges_lt bs n, ?_, fun a ha b hb => ?_⟩
    · unfold armE
      refine List.Pairwise.map _ ?_ List.pairwise_lt_range
      intro a b h
      exact .inr ⟨rfl, by simp only; omega⟩
    · obtain ⟨k, m, h1, h2, rfl⟩ := (mem_edgesTo bs a n).1 ha
      simp only [armE, List.mem_map, List.mem_range] at hb
      obtain ⟨m', _, rfl⟩ := hb
      exact .inl (by simp only; omega)
theorem edges_next (bs : List Blk) {i : Nat} (h : i + 1 < (edgesOf bs).length) : edLt (gE (edgesOf bs) i) (gE (edgesOf bs) (i + 1)) := by
  rw [gE_eq (by omega), gE_eq h]
  exact List.pairwise_iff_getElem.1 (edges_lt bs bs.length) i (i + 1) (Nat.lt_trans (Nat.lt_succ_self i) h) h (Nat.lt_succ_self i)

end Go.Proofs.Ytjichaeegheacaa
